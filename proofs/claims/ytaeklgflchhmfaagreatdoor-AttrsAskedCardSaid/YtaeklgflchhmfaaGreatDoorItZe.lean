/- The program's forest: ends and Check. The program's forest: Check. No conditions. -/
import Derived.Test.YtaeklgflchhmfaaGreatDoorItZc
import Derived.Test.YtaeklgflchhmfaaGreatDoorItW
import Derived.Test.YtaeklgflchhmfaaGreatDoorItY
set_option maxHeartbeats 16000000
set_option maxRecDepth 100000
set_option linter.unusedVariables false
set_option linter.unusedSimpArgs false
set_option linter.unusedSectionVars false
namespace Go.Proofs.It
open Go Go.Ev
theorem kJoin2 {call : CallF} {rnd : Option Nat} {Q : Ex → St → Prop} {k : List It} {I : St → Prop} (hk : ∀ s', I s' → WK call rnd Q k s') : ∀ (l : List It), (∀ s, WK call rnd (fun e s' => e = .normal ∧ I s') l s → WK call rnd Q (l ++ k) s) ∧ ∀ i s, WX call rnd (fun e s' => e = .normal ∧ I s') i l s → WX call rnd Q i (l ++ k) s
 | [] => ⟨fun s h => by simp only [WK] at h; exact hk s h.2, fun i s h => by simp only [WX] at h; exact absurd h.1 (by simp)⟩
 | .c x :: l => by
  have ih := kJoin2 hk l
  refine ⟨fun s h => ?_, fun i s h => by simp only [WX, List.cons_append] at h ⊢; exact ih.2 i s h⟩
  simp only [WK, List.cons_append] at h ⊢
  refine WC.mono h fun e s' hq => ?_
  cases e with
  | normal => exact ih.1 s' hq
  | exit i => exact ih.2 i s' hq
  | ret => exact absurd hq.1 (by simp)
 | .o x :: l => by
  have ih := kJoin2 hk l
  refine ⟨fun s h => ?_, fun i s h => by simp only [WX, List.cons_append] at h ⊢; exact ih.2 i s h⟩
  simp only [WK, List.cons_append] at h ⊢
  obtain ⟨s1, h1, h2⟩ := h
  exact ⟨s1, h1, ih.1 s1 h2⟩
 | .b j :: l => by
  have ih := kJoin2 hk l
  refine ⟨fun s h => by simp only [WK, List.cons_append] at h ⊢; exact ih.1 s h, fun i s h => ?_⟩
  simp only [WX, List.cons_append] at h ⊢
  split at h
  ·rename_i e; simp only [e, if_true]; exact ih.1 s h
  ·rename_i e; simp only [e, if_false]; exact ih.2 i s h
theorem kJoin {call : CallF} {rnd : Option Nat} {Q : Ex → St → Prop} {k l : List It} {I : St → Prop} {s : St} (h : WK call rnd (fun e s' => e = .normal ∧ I s') l s) (hk : ∀ s', I s' → WK call rnd Q k s') : WK call rnd Q (l ++ k) s := (kJoin2 hk l).1 s h
def cB (b : Bool) : List V := [.bool b]
theorem cB_len (b : Bool) : (cB b).length = 1 := rfl
theorem cellB (H : Heap) (b : Bool) : okCells H none (some (cB b)) = some (.bool b, H) := rfl
theorem plainB (l : List Bool) : plainR 1 (l.map cB) := plainR.map cB_len (fun _ => rfl) (fun _ => rfl) l
theorem set_mid (l : List Int) (m : List Bool) (i : Nat) (hi : i < l.length) (g : Int → Bool) (hm : m.length = l.length) : ((l.take i).map g ++ m.drop i).set i (g l[i]) = (l.take (i + 1)).map g ++ m.drop (i + 1) := by
 have h1 : ((l.take i).map g).length = i := by simp; omega
 have h2 : m.drop i = m[i]'(by omega) :: m.drop (i + 1) := List.drop_eq_getElem_cons (by omega)
 rw [List.set_append_right _ _ (by omega), h1, Nat.sub_self, h2, List.set_cons_zero, List.take_add_one, List.getElem?_eq_getElem hi]
 simp only [Option.toList_some, List.map_append, List.map_cons, List.map_nil, List.append_assoc, List.singleton_append]
theorem kZu (f : List Nd) (hf : f.length ≤ 4096) : ∃ L : List Bool, L.length = f.length + 1 ∧ (∀ i : Nat, 1 ≤ i → i ≤ f.length → L[i]? = some (!ring f (i : Int))) ∧ ∀ H, callW Φ zZh [eF f] H = some (.arr (L.map cB), H) := by
 have : ∃ L : List Bool, (L.length = f.length + 1 ∧ (∀ i : Nat, 1 ≤ i → i ≤ f.length → L[i]? = some (!ring f (i : Int)))) ∧ ∃ r hh, evBodyW (callW Φ) zZh.c [eF f] [] = some (r, hh) ∧ ∃ o, VL hh 1 r o (L.map cB) := by
  obtain ⟨P, hP⟩ : ∃ P : V → Heap → Prop, P = fun y h' => ∃ L : List Bool, (L.length = f.length + 1 ∧ (∀ i : Nat, 1 ≤ i → i ≤ f.length → L[i]? = some (!ring f (i : Int)))) ∧ ∃ o, VL h' 1 y o (L.map cB) := ⟨_, rfl⟩
  suffices hgo : ∃ r h', evBodyW (callW Φ) zZh.c [eF f] [] = some (r, h') ∧ P r h' by
   obtain ⟨r, h', h1, h2⟩ := hgo
   rw [hP] at h2
   obtain ⟨L, hL, o, ho⟩ := h2
   exact ⟨L, hL, r, h', h1, o, ho⟩
  have hPL : ∀ (L : List Bool) y h' o, L.length = f.length + 1 → (∀ i : Nat, 1 ≤ i → i ≤ f.length → L[i]? = some (!ring f (i : Int))) → VL h' 1 y o (L.map cB) → P y h' := fun L y h' o h1 h2 h3 => by rw [hP]; exact ⟨L, ⟨h1, h2⟩, o, h3⟩
  obtain ⟨K, hK⟩ : ∃ K : Heap, K = [Ob.cells [.arr (f.map cN)]] := ⟨_, rfl⟩
  have hb : evBox [] [.arr (f.map cN)] = some (.ptr 0 0, K) := by rw [hK]; simp [evBox, V.isCell]
  have hlK : K.length = 1 := by rw [hK]; rfl
  have c0 : cellsAt K (.ptr 0 0) = some [.arr (f.map cN)] := by rw [hK]; rfl
  have hw : IntKind.i64.wrap ((f.length : Int) + 1) = ((f.length + 1 : Nat) : Int) := by rw [Ev.wrap64] <;> omega
  obtain ⟨K1, hK1⟩ : ∃ K1 : Heap, K1 = K ++ [Ob.row 1 ((List.replicate (f.length + 1) (0 : Int)).map cI) 0 true] := ⟨_, rfl⟩
  have hmk : evMks K [.int .i64 0] 1 8 (.int .i64 ((f.length + 1 : Nat) : Int)) (.int .i64 ((f.length + 1 : Nat) : Int)) = some (stV (f.length + 1), K1) := by
   have h1 : ((f.length + 1 : Nat) : Int) * ((8 : Nat) : Int) ≤ (roomB : Int) := by unfold roomB; omega
   simp only [evMks]
   rw [if_pos ⟨by omega, by omega, h1⟩, hK1, Int.toNat_natCast, qZ5, qZ4, hlK]
   simp [cI]
  have S0 : Es f (List.replicate (f.length + 1) (0 : Int)) K1 := by
   refine ⟨by rw [hK1, hK]; rfl, .inr ⟨1, 0, rfl, by simp, by rw [hK1, hK]; rfl, plainI _⟩, by simp⟩
  have hz : ∀ y, stv (List.replicate (f.length + 1) (0 : Int)) y = 0 := by
   intro y
   simp only [stv, List.getD_eq_getElem?_getD, List.getElem?_replicate]
   split <;> rfl
  have G0 : Known f (List.replicate (f.length + 1) (0 : Int)) 0 := ⟨fun y _ => .inl (hz y), fun y h1 h2 => by omega⟩
  have c1 := S0.c0
  refine vZU (Nat.le_of_ble_eq_true rfl) (fun env he h0 => ?_)
  have g0 := h0 0 (by simp)
  change eget env 0 = .agg [.arr (f.map cN)] at g0
  clear h0
  simp [zZh.c] at he
  have hcc : (V.agg [V.arr (f.map cN)]).cells = [.arr (f.map cN)] := rfl
  simp only [Int.natCast_add, Int.natCast_one] at hmk hw
  simp [zZh.c, zZh.r0, zZh.r1, zZh.r2, g0, he, hcc, hb, faddrP, c0, c1, hw, hmk]
  refine kLoop (fun m s => ∃ (i : Nat) (st : List Int), m = f.length - i ∧ i ≤ f.length ∧ s.env.length = 101 ∧ eget s.env 1 = .ptr 0 0 ∧ eget s.env 3 = stV (f.length + 1) ∧ eget s.env 19 = .int .i64 f.length ∧ eget s.env 20 = .int .i64 i ∧ s.marks = [] ∧
   Es f st s.heap ∧ Known f st i) f.length ⟨0, _, by simp, by simp, by simp [he], by simp [he], by simp [he], by simp [he], by simp [he], rfl, S0, G0⟩ ?_
  rintro m ⟨e, mk, hp⟩ ⟨i, st, rfl, hi, he, k1, k3, k19, k20, hm, S, hG⟩
  simp only at he k1 k3 k19 k20 hm S
  obtain rfl := hm
  by_cases hlt : i < f.length
  ·have hwi : IntKind.i64.wrap ((i : Int) + 1) = ((i + 1 : Nat) : Int) := by rw [Ev.wrap64] <;> omega
   have R := fun (e : List V) he g1 g3 g20 => ends_round hf hlt hG S (env := e) he g1 g3 g20
   simp [zZh.b22, zZh.r3, k19, k20, he, hlt]
   simp only [kBlock, kSeq, kRegion] at R
   have R' := R (e.set 21 (.bool true)) (by simp [he]) (by simp [k1]) (by simp [k3]) (by simp [k20])
   refine kJoin R' ?_
   rintro ⟨e', mk, H'⟩ ⟨he', j1, j3, j19, j20, hmk, st', S', hG'⟩
   simp only at he' j1 j3 j19 j20 hmk S'
   obtain rfl := hmk
   simp [k19, k20] at j19 j20
   simp [zZh.r21, j20, he']
   exact ⟨f.length - (i + 1), by omega, i + 1, rfl, by omega, j1, j3, j19, by simpa using hwi, st', S', hG'⟩
  ·have : i = f.length := by omega
   subst this
   have hSl := S.l
   have c2 := S.c0
   have hz1 : (1 : Nat) < hp.length := S.s.lt rfl
   have htold : ∀ i : Nat, 1 ≤ i → i ≤ f.length → (stv st (i : Int) == 2) = !ring f (i : Int) := by
    intro i h1 h2
    have hi : is_ f (i : Int) = true := wZt.2 (by omega)
    have hne := hG.2 (i : Int) (by omega) (by omega)
    rcases hG.1 _ hi with h | ⟨h, hE⟩ | ⟨h, hE⟩
    ·exact absurd h hne
    ·rw [h, (ring_iff f _).2 hE]; rfl
    ·rw [h, (ring_iff' f _).2 hE]; rfl
   have hL1 : (st.map (fun x => x == 2)).length = f.length + 1 := by rw [List.length_map, hSl]
   have hL2 : ∀ i : Nat, 1 ≤ i → i ≤ f.length → (st.map (fun x => x == 2))[i]? = some (!ring f (i : Int)) := by
    intro i h1 h2
    rw [← htold i h1 h2, List.getElem?_map, List.getElem?_eq_getElem (by omega)]
    simp only [Option.map_some, stv, List.getD_eq_getElem?_getD, Int.toNat_natCast, List.getElem?_eq_getElem (show i < st.length by omega), Option.getD_some]
   obtain ⟨K2, hK2⟩ : ∃ K2 : Heap, K2 = hp ++ [Ob.row 1 ((List.replicate (f.length + 1) false).map cB) 0 true] := ⟨_, rfl⟩
   obtain ⟨vo, hvo⟩ : ∃ vo, vo = V.sl hp.length 0 0 (f.length + 1) := ⟨_, rfl⟩
   have hln2 : ∀ H, evLen H .l (stV (f.length + 1)) = some (.int .i64 ((f.length + 1 : Nat) : Int), H) := fun H => by simp [evLen, lenV, qZ5]
   have hln3 : ∀ H, evLen H .l vo = some (.int .i64 ((f.length + 1 : Nat) : Int), H) := fun H => by rw [hvo]; simp [evLen, lenV, qZ5]
   have hmk2 : evMks hp [.bool false] 1 1 (.int .i64 ((f.length + 1 : Nat) : Int)) (.int .i64 ((f.length + 1 : Nat) : Int)) = some (vo, K2) := by
    have h1 : ((f.length + 1 : Nat) : Int) * ((1 : Nat) : Int) ≤ (roomB : Int) := by unfold roomB; omega
    simp only [evMks]
    rw [if_pos ⟨by omega, by omega, h1⟩, hK2, hvo, Int.toNat_natCast, qZ5, qZ4]
    simp [cB]
   have S2 : Es f st K2 := ⟨by rw [hK2, List.getElem?_append_left (by omega)]; exact S.c, by rw [hK2]; exact S.s.push _, hSl⟩
   have O2 : VL K2 1 vo (some hp.length) ((List.replicate (f.length + 1) false).map cB) := .inr ⟨hp.length, 0, rfl, by rw [hvo]; simp, by rw [hK2]; simp, plainB _⟩
   simp only [Int.natCast_add, Int.natCast_one] at hmk2 hln2 hln3
   simp [zZh.b22, zZh.r3, zZh.r23, zZh.r24, k3, k19, k20, he, hmk2, hln2, hln3]
   refine kLoop (fun m s => ∃ (i : Nat), m = f.length + 1 - i ∧ i ≤ f.length + 1 ∧ s.env.length = 101 ∧ eget s.env 3 = stV (f.length + 1) ∧ eget s.env 10 = vo ∧ eget s.env 87 = .int .i64 ((f.length : Int) + 1) ∧ eget s.env 88 = .int .i64 i ∧ s.marks = [] ∧
    Es f st s.heap ∧ VL s.heap 1 vo (some hp.length) (((st.take i).map (fun x => x == 2) ++ (List.replicate (f.length + 1) false).drop i).map cB)) (f.length + 1) ⟨0, by simp, by simp, by simp [he], by simp [k3], by simp [he], by simp [he], by simp [he], rfl, S2, by simpa using O2⟩ ?_
   rintro m ⟨e, mk, hq⟩ ⟨i, rfl, hi, he, k3, k10, k87, k88, hm, S3, O3⟩
   simp only at he k3 k10 k87 k88 hm S3 O3
   obtain rfl := hm
   by_cases hlt : i ≤ f.length
   ·have hwi : IntKind.i64.wrap ((i : Int) + 1) = ((i + 1 : Nat) : Int) := by rw [Ev.wrap64] <;> omega
    have hlt' : (i : Int) < (f.length : Int) + 1 := by omega
    obtain ⟨hia, hic⟩ := S3.at (x := (i : Int)) (by omega) (by omega)
    have hsv : stv st (i : Int) = st[i] := by simp only [stv, List.getD_eq_getElem?_getD, Int.toNat_natCast, List.getElem?_eq_getElem (show i < st.length by omega), Option.getD_some]
    have hlen : ((i : Int)).toNat < (((st.take i).map (fun x => x == 2) ++ (List.replicate (f.length + 1) false).drop i).map cB).length := by
     rw [Int.toNat_natCast, List.length_map, List.length_append, List.length_map, List.length_take, List.length_drop, List.length_replicate]
     omega
    obtain ⟨id, ep, H4, hid, hoa, hos, O4, hl4, hk4⟩ := O3.put (k := .i64) (n := (i : Int)) (by omega) hlen (x := .bool (stv st (i : Int) == 2)) ⟨rfl, rfl, rfl⟩
    have S4 : Es f st H4 := ⟨by rw [hk4 0 (fun e => by have := Option.some.inj e; omega)]; exact S3.c, S3.s.mono fun j hj => hk4 j (fun e => by have := Option.some.inj e; have := Option.some.inj hj; omega), hSl⟩
    simp only [Int.toNat_natCast] at hia hic hoa hos
    have hset := set_mid st (List.replicate (f.length + 1) false) i (by omega) (fun x => x == 2) (by simp [hSl])
    have hO : VL H4 1 vo (some hp.length) (((st.take (i + 1)).map (fun x => x == 2) ++ (List.replicate (f.length + 1) false).drop (i + 1)).map cB) := by
     rw [← hset, List.map_set, ← hsv]
     exact O4
    simp [zZh.b29, zZh.r25, zZh.r26, zZh.r27, zZh.r28, k3, k10, k87, k88, he, hlt', hia, hic, cellI, hoa, hos]
    exact ⟨f.length + 1 - (i + 1), by omega, i + 1, rfl, by omega, by simpa using hwi, S4, by simpa using hO⟩
   ·have : i = f.length + 1 := by omega
    subst this
    have hz' : ¬ ((f.length : Int) + 1 < (f.length : Int) + 1) := by omega
    have e1 : st.take (f.length + 1) = st := List.take_of_length_le (by omega)
    rw [e1, List.drop_of_length_le (by simp), List.append_nil] at O3
    have hP1 := hPL _ vo hq _ hL1 hL2 O3
    simp [zZh.b29, zZh.r25, zZh.r30, k3, k10, k87, k88, he, hP1]
 obtain ⟨L, ⟨h1, h2⟩, r, hh, hb, o, ho⟩ := this
 obtain ⟨h3, hz, _⟩ := ho.fz (d := 62)
 exact ⟨L, h1, h2, fun H => callW_tree (h := H) zZh.Φ rfl (args := [eF f]) (by simp [flat2, flat, eF, scal]) hb hz⟩
open Go Go.Ev
theorem jZ4 (f : List Nd) (z : Sz f) (H : Heap) : ∃ n, callW Φ zZq [eF f] H = some (.tup [.int .i64 (whyR f), .int .i64 n], H) := by
 have : ∃ n hh, evBodyW (callW Φ) zZq.c [eF f] [] = some (.tup [.int .i64 (whyR f), .int .i64 n], hh) := by
  obtain ⟨P, hP⟩ : ∃ P : V → Heap → Prop, P = fun y h' => ∃ n, y = .tup [.int .i64 (whyR f), .int .i64 n] := ⟨_, rfl⟩
  suffices hgo : ∃ r h', evBodyW (callW Φ) zZq.c [eF f] [] = some (r, h') ∧ P r h' by
   obtain ⟨r, h', h1, h2⟩ := hgo
   rw [hP] at h2
   obtain ⟨n, rfl⟩ := h2
   exact ⟨n, h', h1⟩
  have hPn : ∀ n h, P (.tup [.int .i64 (whyR f), .int .i64 n]) h := fun n h => by rw [hP]; exact ⟨n, rfl⟩
  have hlen := z.len
  obtain ⟨K, hK⟩ : ∃ K : Heap, K = [Ob.cells [.arr (f.map cN)]] := ⟨_, rfl⟩
  have hb : evBox [] [.arr (f.map cN)] = some (.ptr 0 0, K) := by rw [hK]; simp [evBox, V.isCell]
  have hK0 : K[0]? = some (.cells [.arr (f.map cN)]) := by rw [hK]; rfl
  have cK : cellsAt K (.ptr 0 0) = some [.arr (f.map cN)] := by rw [hK]; rfl
  refine vZU (Nat.le_of_ble_eq_true rfl) (fun env he h0 => ?_)
  have g0 := h0 0 (by simp)
  change eget env 0 = .agg [.arr (f.map cN)] at g0
  clear h0
  simp [zZq.c] at he
  have hcc : (V.agg [V.arr (f.map cN)]).cells = [.arr (f.map cN)] := rfl
  by_cases hbig : f.length ≤ 4096
  case neg =>
   have hr : right f = false := by simp [right, hbig]
   have hw : whyR f = 5 := by simp [whyR, hr]
   have hz : (4096 : Int) < (f.length : Int) := by omega
   rw [hw] at hPn
   simp [zZq.c, zZq.r0, zZq.r1, zZq.r2, g0, he, hcc, hb, cK, faddrP, hz, hPn, ofCells]
  have hz : ¬ (4096 : Int) < (f.length : Int) := by omega
  obtain ⟨L, hL1, hL2, hE⟩ := kZu f hbig
  simp only [eF] at hE
  simp [zZq.c, zZq.r0, zZq.r1, zZq.r3, zZq.r4, g0, he, hcc, hb, cK, faddrP, hz, hE, ofCells]
  refine kLoop (fun m s => ∃ i : Nat, m = f.length - i ∧ i ≤ f.length ∧ s.env.length = 42 ∧ eget s.env 4 = .arr (L.map cB) ∧ eget s.env 1 = .ptr 0 0 ∧ eget s.env 14 = .arr (f.map cN) ∧ eget s.env 15 = .int .i64 f.length ∧ eget s.env 16 = .int .i64 i ∧ s.marks = [] ∧ s.heap[0]? = some (.cells [.arr (f.map cN)]) ∧ right f = rightFrom f i (f.drop i)) f.length ⟨0, by simp [he, hK0, right, hbig]⟩ ?_
  rintro m ⟨e, mk, hp⟩ ⟨i, rfl, hi, he, k4, k1, k14, k15, k16, hm, hh, hat⟩
  simp only at he k4 k1 k14 k15 k16 hm hh
  subst hm
  by_cases hlt : i < f.length
  ·obtain ⟨x, hx⟩ : ∃ x, f[i]? = some x := ⟨_, List.getElem?_eq_getElem hlt⟩
   have hw : IntKind.i64.wrap ((i : Int) + 1) = (i : Int) + 1 := by rw [Ev.wrap64] <;> omega
   have hdx : f.drop i = x :: f.drop (i + 1) := by
    obtain ⟨hi', rfl⟩ := List.getElem?_eq_some_iff.1 hx
    exact List.drop_eq_getElem_cons hi'
   rw [hdx] at hat
   simp only [rightFrom, nodeOk] at hat
   have ha1 := qZU (h := hp) (k := .i64) vZ0 hx
   have hpu := pushN hp x
   have d0 := atN hp x 0
   simp only [List.drop_zero] at d0
   have h2 : (hp ++ [Ob.cells (cN x)])[0]? = some (.cells [.arr (f.map cN)]) := by rw [List.getElem?_append_left (List.getElem?_eq_some_iff.1 hh).1]; exact hh
   obtain ⟨H2, hH2⟩ : ∃ H2, H2 = hp ++ [Ob.cells (cN x)] := ⟨_, rfl⟩
   rw [← hH2] at hpu d0 h2
   have c0 : cellsAt H2 (.ptr 0 0) = some [.arr (f.map cN)] := by simp [cellsAt, h2]
   have hM := fun H => kZv x (z.attrs x (List.mem_of_getElem? hx)) H
   have hL := fun H => jZ7 f ((i + 1 : Nat) : Int) z (by omega) (by omega) H
   have hR := hL2 (i + 1) (by omega) (by omega)
   have hRi := fun k H => qZU (h := H) (k := k) cB_len hR
   have ecast : ((i + 1 : Nat) : Int) = (i : Int) + 1 := by omega
   rw [ecast] at hL hR hRi hat
   simp only [eF, eN] at hM hL
   cases m1 : made x with
   | false =>
    rw [m1] at hat
    simp only [Bool.false_and] at hat
    have hwh : whyR f = 5 := by simp [whyR, hat]
    rw [hwh] at hPn
    simp only [m1] at hM
    simp [zZq.b10, zZq.r5, zZq.r6, zZq.r7, zZq.r8, k4, k1, k14, k15, k16, he, hlt, ha1, okN, eN, hpu, d0, hM, evPick, hw, hPn, ofCells]
   | true =>
    simp only [m1] at hM
    cases m2 : links f ((i : Int) + 1) with
    | false =>
     rw [m1, m2] at hat
     simp only [Bool.false_and, Bool.and_false] at hat
     have hwh : whyR f = 5 := by simp [whyR, hat]
     rw [hwh] at hPn
     simp only [m2] at hL
     simp [zZq.b10, zZq.r5, zZq.r6, zZq.r7, zZq.r8, k4, k1, k14, k15, k16, he, hlt, ha1, okN, eN, hpu, d0, hM, evPick, hw, c0, hL, hPn, ofCells]
    | true =>
     simp only [m2] at hL
     cases m3 : ring f ((i : Int) + 1) with
     | true =>
      rw [m1, m2, m3] at hat
      simp only [Bool.not_true, Bool.false_and, Bool.and_false] at hat
      have hwh : whyR f = 5 := by simp [whyR, hat]
      rw [hwh] at hPn
      simp only [m3] at hRi
      simp [zZq.b10, zZq.r5, zZq.r6, zZq.r7, zZq.r8, k4, k1, k14, k15, k16, he, hlt, ha1, okN, eN, hpu, d0, hM, evPick, hw, c0, hL, hRi, cellB, hPn, ofCells]
     | false =>
      rw [m1, m2, m3] at hat
      simp only [Bool.not_false, Bool.true_and, Bool.and_true] at hat
      simp only [m3] at hRi
      simp [zZq.b10, zZq.r5, zZq.r6, zZq.r7, zZq.r9, k4, k1, k14, k15, k16, he, hlt, ha1, okN, eN, hpu, d0, hM, evPick, hw, c0, hL, hRi, cellB, ofCells]
      exact ⟨f.length - (i + 1), by omega, i + 1, rfl, by omega, by omega, h2, hat⟩
  ·have : i = f.length := by omega
   subst this
   have hr : right f = true := by rw [hat, List.drop_length]; rfl
   have hwh : whyR f = 0 := by simp [whyR, hr]
   rw [hwh] at hPn
   simp [zZq.b10, zZq.r5, zZq.r11, k15, k16, he, hPn]
 obtain ⟨n, h', hb⟩ := this
 exact ⟨n, zZ4 (h := H) zZq.Φ rfl (args := [eF f]) rfl hb rfl⟩
end Go.Proofs.It
