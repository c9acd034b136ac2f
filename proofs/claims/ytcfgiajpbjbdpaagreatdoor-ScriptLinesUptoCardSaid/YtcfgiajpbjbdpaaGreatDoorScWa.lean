/- The book's texts: what is appended, units, texts, numbers. The book's texts: numbers, a command's size. The book's texts: a command's size, its lists. No conditions. -/
import Derived.Test.YtcfgiajpbjbdpaaGreatDoorScQk
set_option maxHeartbeats 16000000
set_option maxRecDepth 100000
set_option linter.unusedVariables false
set_option linter.unusedSimpArgs false
set_option linter.unusedSectionVars false
namespace Go.Proofs.Sc
open Go Go.Ev
def AP (H : Heap) (o : Option Nat) (l : Bs) (v : V) (H' : Heap) : Prop := ∃ o', VL H' 1 v o' (l.map cB) ∧ H.length ≤ H'.length ∧ (∀ j, j < H.length → o ≠ some j → H'[j]? = H[j]?) ∧ ∀ id, o' = some id → o = some id ∨ H.length ≤ id
theorem AP.refl {H : Heap} {o : Option Nat} {l : Bs} {v : V} (h : VL H 1 v o (l.map cB)) : AP H o l v H := ⟨o, h, Nat.le_refl _, fun _ _ _ => rfl, fun id h => .inl h⟩
theorem AP.trans {H H1 H2 : Heap} {o o1 : Option Nat} {l2 : Bs} {v2 : V} (hl : H.length ≤ H1.length) (hk : ∀ j, j < H.length → o ≠ some j → H1[j]? = H[j]?) (hn : ∀ id, o1 = some id → o = some id ∨ H.length ≤ id) (h : AP H1 o1 l2 v2 H2) : AP H o l2 v2 H2 := by
 obtain ⟨o2, a1, a2, a3, a4⟩ := h
 refine ⟨o2, a1, Nat.le_trans hl a2, fun j hj hne => ?_, fun id hid => ?_⟩
 ·rw [a3 j (Nat.lt_of_lt_of_le hj hl) (fun e => by
   rcases hn j e with h | h
   ·exact hne h
   ·omega), hk j hj hne]
 ·rcases a4 id hid with h | h
  ·exact hn id h
  ·right; omega
theorem AP.push {H H1 : Heap} {o : Option Nat} {l : Bs} {v : V} (h : AP H o l v H1) (E : Heap) : AP H o l v (H1 ++ E) := by
 obtain ⟨o1, a1, a2, a3, a4⟩ := h
 exact ⟨o1, a1.push E, by rw [List.length_append]; omega, fun j hj hne => by rw [List.getElem?_append_left (by omega), a3 j hj hne], a4⟩
theorem AP.add {H H1 : Heap} {o : Option Nat} {l : Bs} {v : V} (h : AP H o l v H1) (b : Bs) (hr : l.length + b.length ≤ 2 ^ 46) :
  ∃ v' H2, evApp (H1 ++ [.row 1 (b.map cB) 0 true]) 1 1 v (.sl H1.length 0 0 b.length) = some (v', H2) ∧ AP H o (l ++ b) v' H2 := by
 obtain ⟨o1, a1, a2, a3, a4⟩ := h
 obtain ⟨v', o', H2, h1, h2, h3, h4, h5⟩ := a1.add (by_ := 1) (es := b.map cB) (plainB b) (by rw [List.length_map, List.length_map]; unfold roomB; omega)
 rw [List.length_map] at h1
 rw [← List.map_append] at h2
 exact ⟨v', H2, h1, AP.trans a2 a3 a4 ⟨o', h2, h3, h4, h5⟩⟩
theorem AP.app {H H1 : Heap} {o : Option Nat} {l : Bs} {v q : V} (h : AP H o l v H1) (b : Bs) (hq : elemsOf H1 q = some (b.map cB)) (hr : l.length + b.length ≤ 2 ^ 46) :
  ∃ v' H2, evApp H1 1 1 v q = some (v', H2) ∧ AP H o (l ++ b) v' H2 := by
 obtain ⟨o1, a1, a2, a3, a4⟩ := h
 obtain ⟨v', o', H2, h1, h2, h3, h4, h5⟩ := a1.app (by_ := 1) (es := b.map cB) (plainB b) hq (by rw [List.length_map, List.length_map]; unfold roomB; omega)
 rw [← List.map_append] at h2
 exact ⟨v', H2, h1, AP.trans a2 a3 a4 ⟨o', h2, h3, h4, h5⟩⟩
theorem shr_u16' {k : IntKind} {u j : Nat} (hj : j < 4) : binV .shr (.int .u16 u) (.int k (4 * (j : Int))) = some (.int .u16 (u / 16 ^ j : Nat)) := by
 have h := shr_u16 (u := u) hj
 have h0 : ¬ (4 * (j : Int)) < 0 := by omega
 simp only [binV, h0, if_false] at h ⊢
 exact h
theorem w8 {u : Nat} (h : u < 256) : IntKind.u8.wrap (u : Int) = u := by
 simp only [IntKind.wrap, IntKind.bits, IntKind.signed, Bool.false_and, Bool.false_eq_true, if_false]; omega
theorem toNat_ofNat {u : Nat} (h : u < 256) : (UInt8.ofNat u).toNat = u := by simp; omega
theorem zYan (H : Heap) (v : V) (o : Option Nat) (l : Bs) (u k : Nat) (y : UInt8) (hu2 : u < 65536) (hk : k ≤ 4) (hv : VL H 1 v o (l.map cB)) (hlen : l.length ≤ 2 ^ 45) : ∃ r h', callW Φ (.fn (.func qZm.k) [] []) [v, .int .u16 u, .int .u8 y.toNat, .int .i64 k] H = some (r, h') ∧ (fun r h' => AP H o (l ++ q1 k y u) r h') r h' := by
 obtain ⟨P, hP⟩ : ∃ P : V → Heap → Prop, P = fun r h' => AP H o (l ++ q1 k y u) r h' := ⟨_, rfl⟩
 suffices hgo : ∃ r h', callW Φ (.fn (.func qZm.k) [] []) [v, .int .u16 u, .int .u8 y.toNat, .int .i64 k] H = some (r, h') ∧ P r h' by rw [hP] at hgo; exact hgo
 have hPi : ∀ r h', (fun r h' => AP H o (l ++ q1 k y u) r h') r h' → P r h' := fun r h' q => by rw [hP]; exact q
 clear hP
 refine kZY qZm.Φ rfl (Nat.le_of_ble_eq_true rfl) (fun env he h0 => ?_)
 have g0 := h0 0 (by simp)
 change eget env 0 = v at g0
 have g1 := h0 1 (by simp)
 change eget env 1 = .int .u16 u at g1
 have g2 := h0 2 (by simp)
 change eget env 2 = .int .u8 y.toNat at g2
 have g3 := h0 3 (by simp)
 change eget env 3 = .int .i64 k at g3
 clear h0
 simp [qZm.c] at he
 have hA := AP.refl hv
 have s1 : ((u : Int) ≤ 126) = (u ≤ 126) := by simp; omega
 have s2 : ((32 : Int) ≤ u) = (32 ≤ u) := by simp; omega
 have hbs2 := fun (x y : UInt8) => bs2 H (.int .u8 0) (.int .u8 x.toNat) (.int .u8 y.toNat) ⟨rfl, rfl⟩ ⟨rfl, rfl⟩
 have hbs1 := fun (x : UInt8) => bs1 H (.int .u8 0) (.int .u8 x.toNat) ⟨rfl, rfl⟩
 have e92 : (((92 : UInt8).toNat : Nat) : Int) = 92 := rfl
 have q34 : ∀ x, x = decide (u = 34) → ((u : Int) == 34) = x := fun x hx => by subst hx; by_cases h : u = 34 <;> simp [h]; omega
 have q92 : ∀ x, x = decide (u = 92) → ((u : Int) == 92) = x := fun x hx => by subst hx; by_cases h : u = 92 <;> simp [h]; omega
 by_cases c1 : u = 34 ∨ u = 92
 ·have hq : q1 k y u = [92, UInt8.ofNat u] := by rcases c1 with rfl | rfl <;> rfl
  have hu8 : u < 256 := by omega
  obtain ⟨v', H2, ha, hA2⟩ := hA.add [92, UInt8.ofNat u] (by simp; omega)
  have hb := hbs2 92 (UInt8.ofNat u)
  simp only [List.map_cons, List.map_nil, cB, toNat_ofNat hu8, List.length_cons, List.length_nil, e92] at ha hb
  have hf := hPi v' H2 (by rw [hq]; exact hA2)
  by_cases c34 : u = 34
  ·have q34 := q34 true (by simp [c34])
   simp [qZm.c, qZm.r0, qZm.r1, qZm.r2, g0, g1, he, q34, evPick, evConv, w8 hu8, hb, ha, hf]
  ·have q34 := q34 false (by simp [c34])
   have q92 := q92 true (by simp; omega)
   simp [qZm.c, qZm.r0, qZm.r1, qZm.r2, g0, g1, he, q34, q92, evPick, evConv, w8 hu8, hb, ha, hf]
 ·have q34 := q34 false (by simp; omega)
  have q92 := q92 false (by simp; omega)
  by_cases c2 : 32 ≤ u ∧ u ≤ 126
  ·obtain ⟨d1, d2⟩ := c2
   have hq : q1 k y u = [UInt8.ofNat u] := by
    have hsh : shown u = true := by simp [shown, d1, d2]
    have hb : bare u = true := by simp [bare, hsh]; omega
    simp [q1, hb]
   have hu8 : u < 256 := by omega
   obtain ⟨v', H2, ha, hA2⟩ := hA.add [UInt8.ofNat u] (by simp; omega)
   have hb := hbs1 (UInt8.ofNat u)
   simp only [List.map_cons, List.map_nil, cB, toNat_ofNat hu8, List.length_cons, List.length_nil] at ha hb
   have hf := hPi v' H2 (by rw [hq]; exact hA2)
   simp [qZm.c, qZm.r0, qZm.r1, qZm.r3, qZm.r4, g0, g1, he, q34, q92, s1, s2, d1, d2, evPick, evConv, w8 hu8, hb, ha, hf]
  ·have hsh : shown u = false := by
    simp only [shown, Bool.and_eq_false_iff, decide_eq_false_iff_not]
    omega
   have hq : q1 k y u = 92 :: y :: hexs k u := by simp [q1, bare, hsh]
   obtain ⟨v', H2, ha, hA2⟩ := hA.add [92, y] (by simp; omega)
   have hb := hbs2 92 y
   simp only [List.map_cons, List.map_nil, cB, List.length_cons, List.length_nil, e92] at ha hb
   have wk := wrap64 (n := (k : Int) - 1) (by omega) (by omega)
   have key : ∀ env : List V, env.length = 55 → eget env 0 = v' → eget env 1 = .int .u16 u → eget env 9 = .int .i64 ((k : Int) - 1) → WK (callW Φ) none (FinX [.tmp 8] P) [It.c (.loop qZm.b10), It.b 1, It.c (xS qZm.r11 .ret)] { env := env, marks := [], heap := H2 } := by
    intro env he k0 k1 k9
    obtain ⟨J, hJ⟩ : ∃ J : Nat → St → Prop, J = fun m st => ∃ (d : Nat) (w : V), m = k - d ∧ d ≤ k ∧ (eget st.env 0 = w ∧ eget st.env 1 = .int .u16 u ∧ eget st.env 9 = .int .i64 ((k : Int) - 1 - d) ∧ st.env.length = 55) ∧ st.marks = [] ∧ AP H o (l ++ [92, y] ++ (hexs k u).take d) w st.heap := ⟨_, rfl⟩
    refine kLoop J k (by rw [hJ]; exact ⟨0, v', rfl, by omega, ⟨k0, k1, by simpa using k9, he⟩, rfl, by simpa using hA2⟩) ?_
    rintro m ⟨env, mk, Hh⟩ hst
    rw [hJ] at hst
    obtain ⟨d, w, rfl, hd, ⟨k0, k1, k9, hl⟩, hm, hAP⟩ := hst
    simp only at k0 k1 k9 hl hm hAP
    obtain rfl := hm
    by_cases cd : d < k
    ·obtain ⟨j, hj⟩ : ∃ j : Nat, j = k - 1 - d := ⟨_, rfl⟩
     have hj' : (k : Int) - 1 - d = (j : Nat) := by omega
     rw [hj'] at k9
     have hj0 : (0 : Int) ≤ (j : Nat) := by omega
     have wm : IntKind.i64.wrap (4 * (j : Int)) = 4 * (j : Int) := wrap64 (by omega) (by omega)
     have wm2 : IntKind.u64.wrap (4 * (j : Int)) = 4 * (j : Int) := by
      simp only [IntKind.wrap, IntKind.bits, IntKind.signed, Bool.false_and, Bool.false_eq_true, if_false]; omega
     have hsr := shr_u16' (k := .u64) (u := u) (j := j) (by omega)
     have hg := hexs_get k u d cd
     rw [← hj] at hg
     have hux : u / 16 ^ j < 65536 := Nat.lt_of_le_of_lt (Nat.div_le_self _ _) hu2
     obtain ⟨x, hxd⟩ : ∃ x, x = u / 16 ^ j := ⟨_, rfl⟩
     rw [← hxd] at hux hsr hg
     have han := and_u16 hux
     have hdg : x % 16 < 16 := Nat.mod_lt _ (by omega)
     obtain ⟨z, hzd⟩ : ∃ z, z = x % 16 := ⟨_, rfl⟩
     rw [← hzd] at han hdg hg
     have ix := idx_T (h := Hh) (l := hexT) (k := .u16) (n := (z : Int)) (by omega) (by rw [Int.toNat_natCast]; exact hexT_get hdg)
     have ix2 : evIdxS Hh (.str ⟨#[48, 49, 50, 51, 52, 53, 54, 55, 56, 57, 97, 98, 99, 100, 101, 102]⟩) (.int .u16 (z : Int)) = some (.int .u8 (hx z).toNat, Hh) := ix
     have hb2 := bs1 Hh (.int .u8 0) (.int .u8 (hx z).toNat) ⟨rfl, rfl⟩
     obtain ⟨w', H3, ha3, hA3⟩ := hAP.add [hx z] (by simp; omega)
     simp only [List.map_cons, List.map_nil, cB, List.length_cons, List.length_nil] at ha3
     have w1 : IntKind.i64.wrap ((j : Int) - 1) = (j : Int) - 1 := wrap64 (by omega) (by omega)
     simp only [qZm.b10]
     simp [qZm.r7, qZm.r8, qZm.r9, k0, k1, k9, hl, wm, evConv, wm2, hsr, han, ix2, hb2, ha3, w1]
     refine ⟨k - (d + 1), by omega, ?_⟩
     rw [hJ]
     refine ⟨d + 1, w', rfl, by omega, ⟨by simp [hl], by simp [k1], by simp [hl]; omega, by simp [hl]⟩, rfl, ?_⟩
     have ht : (hexs k u).take (d + 1) = (hexs k u).take d ++ [hx z] := by rw [List.take_add_one, hg]; rfl
     rw [ht, ← List.append_assoc]
     exact hA3
    ·have hdk : d = k := by omega
     have hneg : (k : Int) - 1 - d = -1 := by omega
     rw [hneg] at k9
     have hfull : (hexs k u).take d = hexs k u := List.take_of_length_le (by rw [zYak]; omega)
     rw [hfull] at hAP
     have hf := hPi w Hh (by rw [hq]; simpa using hAP)
     simp only [qZm.b10]
     simp [qZm.r7, qZm.r11, k0, k1, k9, hl, hf]
   by_cases d1 : 32 ≤ u
   ·have d2 : ¬ u ≤ 126 := fun h => c2 ⟨d1, h⟩
    simp [qZm.c, qZm.r0, qZm.r1, qZm.r3, qZm.r5, qZm.r6, g0, g1, g2, g3, he, q34, q92, s1, s2, d1, d2, evPick, hb, ha, wk]
    exact key _ (by simp [he]) (by simp [he]) (by simp [g1]) (by simp [he])
   ·simp [qZm.c, qZm.r0, qZm.r1, qZm.r3, qZm.r5, qZm.r6, g0, g1, g2, g3, he, q34, q92, s1, s2, d1, evPick, hb, ha, wk]
    exact key _ (by simp [he]) (by simp [he]) (by simp [g1]) (by simp [he])
theorem flat_take {α : Type} (f : α → Bs) (l : List α) {i : Nat} {x : α} (h : l[i]? = some x) : (l.take (i + 1)).flatMap f = (l.take i).flatMap f ++ f x := by
 rw [List.take_add_one, h]
 simp
theorem xZ1 (H : Heap) (v : V) (o : Option Nat) (l s : Bs) (hv : VL H 1 v o (l.map cB)) (hlen : l.length ≤ 2 ^ 44) (hs : s.length ≤ 2 ^ 40) : ∃ r h', callW Φ (.fn (.func qZd.k) [] []) [v, T s] H = some (r, h') ∧ (fun r h' => AP H o (l ++ quoteB s) r h') r h' := by
 obtain ⟨P, hP⟩ : ∃ P : V → Heap → Prop, P = fun r h' => AP H o (l ++ quoteB s) r h' := ⟨_, rfl⟩
 suffices hgo : ∃ r h', callW Φ (.fn (.func qZd.k) [] []) [v, T s] H = some (r, h') ∧ P r h' by rw [hP] at hgo; exact hgo
 have hPi : ∀ r h', (fun r h' => AP H o (l ++ quoteB s) r h') r h' → P r h' := fun r h' q => by rw [hP]; exact q
 clear hP
 refine kZY qZd.Φ rfl (Nat.le_of_ble_eq_true rfl) (fun env he h0 => ?_)
 have g0 := h0 0 (by simp)
 change eget env 0 = v at g0
 have g1 := h0 1 (by simp)
 change eget env 1 = T s at g1
 clear h0
 simp [qZd.c] at he
 have hA := AP.refl hv
 have e34 : (((34 : UInt8).toNat : Nat) : Int) = 34 := rfl
 obtain ⟨v', H2, ha, hA2⟩ := hA.add [34] (by simp; omega)
 have hb := bs1 H (.int .u8 0) (.int .u8 34) ⟨rfl, rfl⟩
 simp only [List.map_cons, List.map_nil, cB, List.length_cons, List.length_nil, e34] at ha
 simp [qZd.c, qZd.r0, qZd.r1, qZd.r2, g0, he, hb, ha]
 obtain ⟨I, hI⟩ : ∃ I : Nat → St → Prop, I = fun m st => ∃ (i : Nat) (w : V), m = s.length - i ∧ i ≤ s.length ∧ (eget st.env 0 = w ∧ eget st.env 1 = T s ∧ eget st.env 5 = .int .i64 i ∧ st.env.length = 24) ∧ st.marks = [] ∧ AP H o (l ++ [34] ++ ((s.map fun b => b.toNat).take i).flatMap (q1 2 120)) w st.heap := ⟨_, rfl⟩
 refine kLoop I s.length (by rw [hI]; exact ⟨0, v', rfl, by omega, ⟨by simp [he], by simp [g1], by simp [he], by simpa using he⟩, rfl, by simpa using hA2⟩) ?_
 rintro m ⟨env, mk, Hh⟩ hst
 rw [hI] at hst
 obtain ⟨i, w, rfl, hi, ⟨k0, k1, k5, hl⟩, hm, hAP⟩ := hst
 simp only at k0 k1 k5 hl hm hAP
 obtain rfl := hm
 have hql : (((s.map fun b => b.toNat).take i).flatMap (q1 2 120)).length ≤ 6 * s.length := by
  have h1 := xZp (k := 2) (by omega) 120 ((s.map fun b => b.toNat).take i)
  rw [List.length_take, List.length_map] at h1
  omega
 by_cases c : i < s.length
 ·obtain ⟨b, hb⟩ : ∃ b, s[i]? = some b := ⟨_, List.getElem?_eq_getElem c⟩
  have ix := idx_T (h := Hh) (k := .i64) (n := (i : Int)) (by omega) (by simpa using hb)
  have wr := wrap64 (n := (i : Int) + 1) (by omega) (by omega)
  have hb' := b.toNat_lt
  have w16 : IntKind.u16.wrap (b.toNat : Int) = b.toNat := by
   simp only [IntKind.wrap, IntKind.bits, IntKind.signed, Bool.false_and, Bool.false_eq_true, if_false]; omega
  obtain ⟨o1, a1, a2, a3, a4⟩ := hAP
  obtain ⟨r, H3, hc, hA3⟩ := zYan Hh w o1 _ b.toNat 2 120 (by omega) (by omega) a1 (by simp only [List.length_append, List.length_cons, List.length_nil]; omega)
  have hA4 := AP.trans a2 a3 a4 hA3
  have e120 : (((120 : UInt8).toNat : Nat) : Int) = 120 := rfl
  have e2 : (((2 : Nat)) : Int) = 2 := rfl
  simp only [e120, e2] at hc
  simp only [qZd.b6]
  simp [qZd.r3, qZd.r4, qZd.r5, k0, k1, k5, hl, vZm, c, ix, evConv, w16, hc, wr]
  refine ⟨s.length - (i + 1), by omega, ?_⟩
  rw [hI]
  refine ⟨i + 1, r, rfl, by omega, ⟨by simp [hl], by simp [k1], by simp [hl], by simp [hl]⟩, rfl, ?_⟩
  rw [flat_take _ _ (show (s.map fun b => b.toNat)[i]? = some b.toNat by rw [List.getElem?_map, hb]; rfl), ← List.append_assoc]
  exact hA4
 ·have hie : i = s.length := by omega
  rw [hie, List.take_of_length_le (by rw [List.length_map]; omega)] at hAP hql
  obtain ⟨r, H3, ha3, hA3⟩ := hAP.add [34] (by simp only [List.length_append, List.length_cons, List.length_nil]; omega)
  have hb3 := bs1 Hh (.int .u8 0) (.int .u8 34) ⟨rfl, rfl⟩
  simp only [List.map_cons, List.map_nil, cB, List.length_cons, List.length_nil, e34] at ha3
  have hf := hPi r H3 (by simpa [quoteB, quoteU] using hA3)
  have cI : ¬ (i : Int) < s.length := by omega
  simp only [qZd.b6]
  simp [qZd.r3, qZd.r7, k0, k1, k5, hl, vZm, c, cI, hb3, ha3, hf]
open Go Go.Ev
theorem xor_u64 {x : Nat} (h : x < 18446744073709551616) : unV .xor (.int .u64 x) = some (.int .u64 ((18446744073709551615 - x : Nat) : Int)) := by
 have e1 : BitVec.ofInt 64 (x : Int) = BitVec.ofNat 64 x := by simp
 have e2 : BitVec.ofInt 64 18446744073709551615 = BitVec.allOnes 64 := by decide
 have e3 : (BitVec.ofInt 64 18446744073709551615 ^^^ BitVec.ofInt 64 (x : Int)).toNat = 18446744073709551615 - x := by
  rw [e1, e2, BitVec.allOnes_xor, BitVec.toNat_not, BitVec.toNat_ofNat, Nat.mod_eq_of_lt (by omega)]
 show some (V.int .u64 (IntKind.u64.wrap ((BitVec.ofInt 64 18446744073709551615 ^^^ BitVec.ofInt 64 (x : Int)).toNat : Nat))) = _
 rw [e3]
 congr 2
 simp only [IntKind.wrap, IntKind.bits, IntKind.signed, Bool.false_and, Bool.false_eq_true, if_false]
 omega
theorem wu64 {n : Nat} (h : n < 18446744073709551616) : IntKind.u64.wrap (n : Int) = n := by
 simp only [IntKind.wrap, IntKind.bits, IntKind.signed, Bool.false_and, Bool.false_eq_true, if_false]; omega
theorem rem_u64 (a : Nat) : binV .rem (.int .u64 a) (.int .u64 10) = some (.int .u64 (a % 10 : Nat)) := by
 simp only [binV, if_true]
 rw [if_neg (by decide), Int.tmod_eq_emod_of_nonneg (by omega)]
 congr 2
theorem quo_u64 {a : Nat} (h : a < 18446744073709551616) : binV .quo (.int .u64 a) (.int .u64 10) = some (.int .u64 (a / 10 : Nat)) := by
 simp only [binV, if_true]
 rw [if_neg (by decide), Int.tdiv_eq_ediv_of_nonneg (by omega)]
 have e : (a : Int) / 10 = ((a / 10 : Nat) : Int) := by omega
 rw [e, wu64 (by omega)]
def decT : Bs := [48, 49, 50, 51, 52, 53, 54, 55, 56, 57]
theorem decT_get {d : Nat} (h : d < 10) : decT[d]? = some (UInt8.ofNat (48 + d)) := (show ∀ d : Fin 10, decT[d.val]? = some (UInt8.ofNat (48 + d.val)) by decide) ⟨d, h⟩
theorem idx_dec {d : Nat} (h : d < 10) (H : Heap) : evIdxS H (.str ⟨#[48, 49, 50, 51, 52, 53, 54, 55, 56, 57]⟩) (.int .u64 (d : Int)) = some (.int .u8 (UInt8.ofNat (48 + d)).toNat, H) :=
 idx_T (h := H) (l := decT) (k := .u64) (n := (d : Int)) (by omega) (by rw [Int.toNat_natCast]; exact decT_get h)
def DI (N u : Nat) (out : Bs) : Prop := (out = [] ∧ u = N) ∨ (out ≠ [] ∧ dec N = (if u = 0 then [] else dec u) ++ out)
theorem DI.next {N u : Nat} {out : Bs} (h : DI N u out) (hc : 9 < u ∨ out = []) : DI N (u / 10) (UInt8.ofNat (48 + u % 10) :: out) := by
 have e : ∀ u, (if u / 10 = 0 then [] else dec (u / 10)) ++ [UInt8.ofNat (48 + u % 10)] = dec u := fun u => by
  conv => rhs; rw [dec]
  by_cases hu : u < 10
  ·rw [if_pos hu, if_pos (by omega), Nat.mod_eq_of_lt hu]; rfl
  ·rw [if_neg hu, if_neg (by omega)]
 right
 refine ⟨by simp, ?_⟩
 rcases h with ⟨rfl, rfl⟩ | ⟨h1, h2⟩
 ·exact (e u).symm
 ·have h9 : 9 < u := hc.resolve_right h1
  rw [h2, if_neg (by omega), ← e u]
  simp
theorem DI.done {N u : Nat} {out : Bs} (h : DI N u out) (hu : ¬ 9 < u) (ho : out ≠ []) : dec N = (if 0 < u then [UInt8.ofNat (48 + u)] else []) ++ out := by
 rcases h with ⟨h1, _⟩ | ⟨_, h2⟩
 ·exact absurd h1 ho
 ·rw [h2]
  by_cases h0 : u = 0
  ·simp [h0]
  ·rw [if_neg h0, if_pos (by omega), dec, if_pos (by omega)]
theorem VL.ahead {H : Heap} {v : V} {o : Option Nat} {l : Bs} (h : VL H 1 v o (l.map cB)) (b : UInt8) (hr : l.length ≤ 2 ^ 40) :
  ∃ v' o' H2, evApp (H ++ [.row 1 [cB b] 0 true]) 1 1 (.sl H.length 0 0 1) v = some (v', H2) ∧ VL H2 1 v' o' ((b :: l).map cB) := by
 have h2 := h.push [.row 1 [cB b] 0 true]
 have hq : elemsOf (H ++ [.row 1 [cB b] 0 true]) v = some (l.map cB) := (SV.elems (.inr h2))
 have hv : VL (H ++ [.row 1 [cB b] 0 true]) 1 (.sl H.length 0 0 1) (some H.length) [cB b] := .inr ⟨H.length, 0, rfl, rfl, by simp, plainB [b]⟩
 obtain ⟨v', o', H3, h1, h3, _⟩ := hv.app (by_ := 1) (es := l.map cB) (plainB l) hq (by simp [roomB]; omega)
 exact ⟨v', o', H3, h1, by simpa using h3⟩
theorem zYaz (n : Int) (hn : ok64 n) (H : Heap) : callW Φ zZT [.int .i64 n] H = some (.arr ((itoa n).map cB), H) := by
 refine xZ5 zZT.Φ rfl (args := [.int .i64 n]) rfl ?_
 obtain ⟨P, hP⟩ : ∃ P : V → Heap → Prop, P = fun r h2 => ∃ h3, fz fzDepth h2 r = some (.arr ((itoa n).map cB), h3) := ⟨_, rfl⟩
 suffices hgo : ∃ r h', evBodyW (callW Φ) zZT.c [.int .i64 n] [] = some (r, h') ∧ P r h' by rw [hP] at hgo; exact hgo
 have hPz : ∀ r h2 h3, fz fzDepth h2 r = some (.arr ((itoa n).map cB), h3) → P r h2 := fun r h2 h3 hz => by rw [hP]; exact ⟨h3, hz⟩
 have hPn : ∀ r h2, flatN2 r = true → nz2 r = .arr ((itoa n).map cB) → P r h2 := fun r h2 h h1 => hPz r h2 h2 (by rw [← h1]; exact wZl h)
 clear hP
 refine xZ4 (Nat.le_of_ble_eq_true rfl) (fun env he h0 => ?_)
 have g0 := h0 0 (by simp)
 change eget env 0 = .int .i64 n at g0
 clear h0
 simp [zZT.c] at he
 obtain ⟨N, hN⟩ : ∃ N, N = n.natAbs := ⟨_, rfl⟩
 obtain ⟨o1, o2⟩ := hn
 have hN63 : N ≤ 9223372036854775808 := by omega
 have key2 : ∀ (env : List V) (u : Nat) (v : V) (o : Option Nat) (out : Bs) (H : Heap), env.length = 41 → eget env 0 = .int .i64 n → eget env 3 = .int .u64 u → eget env 4 = v → VL H 1 v o (out.map cB) → out.length ≤ 20 → u ≤ 9 → dec N = (if 0 < u then [UInt8.ofNat (48 + u)] else []) ++ out →
   WK (callW Φ) none (FinX [.tmp 2] P) [It.o zZT.r9, It.c (.cond (.t 29) (.region zZT.r10) .skip), It.c (.seq (xS zZT.r11 (.cond (.t 36) (.region zZT.r12) .skip)) (xS zZT.r13 .ret))] { env := env, marks := [], heap := H } := by
  intro env u v o out H he k0 k3 k4 hv hol hu hd
  have key3 : ∀ (env : List V) (v : V) (o : Option Nat) (H : Heap), env.length = 41 → eget env 0 = .int .i64 n → eget env 4 = v → VL H 1 v o ((dec N).map cB) → (dec N).length ≤ 40 →
    WK (callW Φ) none (FinX [.tmp 2] P) [It.o zZT.r11, It.c (.cond (.t 36) (.region zZT.r12) .skip), It.c (xS zZT.r13 .ret)] { env := env, marks := [], heap := H } := by
   intro env v o H he k0 k4 hv hdl
   by_cases hneg : n < 0
   ·obtain ⟨v', o', H2, ha, hv2⟩ := hv.ahead 45 (by omega)
    have hb := bs1 H (.int .u8 0) (.int .u8 45) ⟨rfl, rfl⟩
    have e45 : (((45 : UInt8).toNat : Nat) : Int) = 45 := rfl
    simp only [cB, e45] at ha
    have hi : itoa n = 45 :: dec N := by unfold itoa; rw [if_pos hneg, hN]
    rw [← hi] at hv2
    obtain ⟨H3, hz, _⟩ := hv2.fz (d := 62)
    have hf := hPz _ _ _ hz
    simp [zZT.r11, zZT.r12, zZT.r13, k0, k4, he, hneg, hb, ha, hf]
   ·have hi : itoa n = dec N := by unfold itoa; rw [if_neg hneg, hN]
    rw [← hi] at hv
    obtain ⟨H3, hz, _⟩ := hv.fz (d := 62)
    have hf := hPz _ _ _ hz
    simp [zZT.r11, zZT.r13, k0, k4, he, hneg, hf]
  by_cases h0 : 0 < u
  ·rw [if_pos h0] at hd
   obtain ⟨v', o', H2, ha, hv2⟩ := hv.ahead (UInt8.ofNat (48 + u)) (by omega)
   have hb := bs1 H (.int .u8 0) (.int .u8 (UInt8.ofNat (48 + u)).toNat) ⟨rfl, rfl⟩
   have hix := idx_dec (d := u) (by omega) H
   have c0 : (0 : Int) < (u : Int) := by omega
   simp only [cB] at ha
   rw [show UInt8.ofNat (48 + u) :: out = dec N by rw [hd]; rfl] at hv2
   have hdl : (dec N).length ≤ 40 := by rw [hd]; simp; omega
   obtain ⟨z, hz⟩ : ∃ z, z = (UInt8.ofNat (48 + u)).toNat := ⟨_, rfl⟩
   rw [← hz] at hb ha hix
   simp [zZT.r9, zZT.r10, k0, k3, k4, he, h0, c0, hix, hb, ha]
   exact key3 _ v' o' H2 (by simp [he]) (by simp [k0]) (by simp [he]) hv2 hdl
  ·have c0 : ¬ (0 : Int) < (u : Int) := by omega
   rw [if_neg h0, List.nil_append] at hd
   rw [← hd] at hv
   have hdl : (dec N).length ≤ 40 := by rw [hd]; omega
   simp [zZT.r9, k0, k3, k4, he, h0, c0]
   exact key3 _ v o H (by simp [he]) (by simp [k0]) (by simp [k4]) hv hdl
 have key1 : ∀ (env : List V), env.length = 41 → eget env 0 = .int .i64 n → eget env 3 = .int .u64 N →
   WK (callW Φ) none (FinX [.tmp 2] P) [It.o zZT.r4, It.c (.seq (.block 0 (.loop zZT.b8)) (.seq (xS zZT.r9 (.cond (.t 29) (.region zZT.r10) .skip)) (.seq (xS zZT.r11 (.cond (.t 36) (.region zZT.r12) .skip)) (xS zZT.r13 .ret))))] { env := env, marks := [], heap := [] } := by
  intro env he k0 k3
  have hb0 : evBslice [] [.int .u8 0] 0 1 [] = some (.sl 0 0 0 0, [.row 1 [] 0 true]) := rfl
  simp [zZT.r4, he, hb0]
  have hdl20 : (dec N).length ≤ 20 := dec_len N 20 (by omega) (by omega)
  obtain ⟨I, hI⟩ : ∃ I : Nat → St → Prop, I = fun m st => ∃ (u : Nat) (v : V) (o : Option Nat) (out : Bs), m = (if out = [] then u + 1 else u) ∧ (eget st.env 0 = .int .i64 n ∧ eget st.env 3 = .int .u64 u ∧ eget st.env 4 = v ∧ st.env.length = 41) ∧ st.marks = [] ∧ VL st.heap 1 v o (out.map cB) ∧ u ≤ 9223372036854775808 ∧ DI N u out := ⟨_, rfl⟩
  refine kLoop I (N + 1) (by
   rw [hI]
   exact ⟨N, .sl 0 0 0 0, some 0, [], by simp, ⟨by simp [k0], by simp [k3], by simp [he], by simp [he]⟩, rfl, .inr ⟨0, 0, rfl, rfl, rfl, plainB []⟩, hN63, .inl ⟨rfl, rfl⟩⟩) ?_
  rintro m ⟨env, mk, Hh⟩ hst
  rw [hI] at hst
  obtain ⟨u, v, o, out, rfl, ⟨k0, k3, k4, hl⟩, hm, hv, hu, hdi⟩ := hst
  simp only at k0 k3 k4 hl hm hv
  obtain rfl := hm
  have hol : out.length ≤ 20 := by
   rcases hdi with ⟨rfl, _⟩ | ⟨_, h⟩
   ·simp
   ·rw [h, List.length_append] at hdl20; omega
  have hlen := hv.len Hh
  rw [List.length_map] at hlen
  have round : (9 < u ∨ out = []) → ∃ (v' : V) (o' : Option Nat) (H2 : Heap) (x : UInt8), evIdxS Hh (.str ⟨#[48, 49, 50, 51, 52, 53, 54, 55, 56, 57]⟩) (.int .u64 ((u % 10 : Nat) : Int)) = some (.int .u8 x.toNat, Hh) ∧ evBslice Hh [.int .u8 0] 1 1 [(0, .int .u8 x.toNat)] = some (.sl Hh.length 0 0 1, Hh ++ [.row 1 [cB x] 0 true]) ∧ evApp (Hh ++ [.row 1 [cB x] 0 true]) 1 1 (.sl Hh.length 0 0 1) v = some (v', H2) ∧ VL H2 1 v' o' ((x :: out).map cB) ∧ DI N (u / 10) (x :: out) := by
   intro hc
   obtain ⟨v', o', H2, ha, hv2⟩ := hv.ahead (UInt8.ofNat (48 + u % 10)) (by omega)
   exact ⟨v', o', H2, UInt8.ofNat (48 + u % 10), idx_dec (by omega) Hh, bs1 Hh _ _ ⟨rfl, rfl⟩, ha, hv2, hdi.next hc⟩
  have hr := rem_u64 u
  have hqu := quo_u64 (a := u) (by omega)
  obtain ⟨y, hy⟩ : ∃ y, y = u % 10 := ⟨_, rfl⟩
  obtain ⟨z, hz⟩ : ∃ z, z = u / 10 := ⟨_, rfl⟩
  rw [← hy] at round hr
  rw [← hz] at round hqu
  by_cases c9 : 9 < u
  ·have c9' : (9 : Int) < (u : Int) := by omega
   obtain ⟨v', o', H2, x, h1, h2, h3, h4, h5⟩ := round (.inl c9)
   simp only [cB] at h2 h3
   simp only [zZT.b8]
   simp [zZT.r5, zZT.r6, zZT.r7, k0, k3, k4, hl, c9, c9', evPick, hr, hqu, h1, h2, h3]
   refine ⟨z, by split <;> omega, ?_⟩
   rw [hI]
   exact ⟨z, v', o', x :: out, by simp, ⟨by simp [k0], by simp [hl], by simp [hl], by simp [hl]⟩, rfl, h4, by omega, h5⟩
  ·have c9' : ¬ (9 : Int) < (u : Int) := by omega
   by_cases co : out = []
   ·obtain ⟨v', o', H2, x, h1, h2, h3, h4, h5⟩ := round (.inr co)
    have l0 : ((out.length : Int) == 0) = true := by simp [co]
    have l0' : (out.length == 0) = true := by simp [co]
    simp only [cB] at h2 h3
    simp only [zZT.b8]
    simp [zZT.r5, zZT.r6, zZT.r7, k0, k3, k4, hl, c9, c9', hlen, l0, l0', evPick, hr, hqu, h1, h2, h3]
    refine ⟨z, by rw [if_pos co]; omega, ?_⟩
    rw [hI]
    exact ⟨z, v', o', x :: out, by simp, ⟨by simp [k0], by simp [hl], by simp [hl], by simp [hl]⟩, rfl, h4, by omega, h5⟩
   ·have l0 : ((out.length : Int) == 0) = false := by simp [co]
    have l0' : (out.length == 0) = false := by simp [co]
    have hd := hdi.done c9 co
    simp only [zZT.b8]
    simp [zZT.r5, k0, k3, k4, hl, c9, c9', hlen, l0, l0', evPick]
    exact key2 _ u v o out Hh (by simp [hl]) (by simp [k0]) (by simp [k3]) (by simp [k4]) hv hol (by omega) hd
 by_cases hneg : n < 0
 ·obtain ⟨x, hx⟩ : ∃ x, x = 18446744073709551616 - N := ⟨_, rfl⟩
  have w1 : IntKind.u64.wrap n = (x : Nat) := by
   simp only [IntKind.wrap, IntKind.bits, IntKind.signed, Bool.false_and, Bool.false_eq_true, if_false]; omega
  have h1 := xor_u64 (x := x) (by omega)
  have e1 : 18446744073709551615 - x = N - 1 := by omega
  rw [e1] at h1
  have w2 : IntKind.u64.wrap (((N - 1 : Nat) : Int) + 1) = (N : Nat) := by
   have e : ((N - 1 : Nat) : Int) + 1 = (N : Nat) := by omega
   rw [e]; exact wu64 (by omega)
  obtain ⟨M, hM⟩ : ∃ M, M = N - 1 := ⟨_, rfl⟩
  rw [← hM] at h1 w2
  simp [zZT.c, zZT.r0, zZT.r1, zZT.r2, zZT.r3, g0, he, evConv, w1, hneg, h1, w2]
  exact key1 _ (by simp [he]) (by simp [g0]) (by simp [he])
 ·have w1 : IntKind.u64.wrap n = (N : Nat) := by
   have e : n = (N : Nat) := by omega
   rw [e]; exact wu64 (by omega)
  simp [zZT.c, zZT.r0, zZT.r1, zZT.r2, g0, he, evConv, w1, hneg]
  exact key1 _ (by simp [he]) (by simp [g0]) (by simp [he])
open Go Go.Ev
theorem AP.cell {H H2 : Heap} {v0 v : V} {o : Option Nat} {l : Bs} {l0 : List (List V)} (hv : VL H 1 v0 o l0) (h : AP H o l v H2) {p : Nat} {cs : List V} (hc : H[p]? = some (.cells cs)) : H2[p]? = some (.cells cs) := by
 obtain ⟨o1, a1, a2, a3, a4⟩ := h
 rw [a3 p (List.getElem?_eq_some_iff.1 hc).1 (hv.ne hc (fun _ _ _ _ h => by cases h))]
 exact hc
def sizeN (c : Cmd) : Nat := c.s.length + c.t.length + c.data.length + 2 * c.list.length + (c.names.map fun x => x.length + 3).sum
theorem sum3_le (l : List Bs) : (l.map fun x => x.length + 3).sum ≤ 3 * (l.map fun x => x.length + 1).sum := by
 induction l with
 | nil => simp
 | cons x l ih => simp only [List.map_cons, List.sum_cons]; omega
theorem sum_take {l : List Bs} {f : Bs → Nat} {i : Nat} {x : Bs} (h : l[i]? = some x) : ((l.take (i + 1)).map f).sum = ((l.take i).map f).sum + f x := by
 rw [List.take_add_one, h]
 simp
theorem zYaM (l : List Bs) (f : Bs → Nat) (i : Nat) : ((l.take i).map f).sum ≤ (l.map f).sum := by
 have h : (l.map f).sum = ((l.take i).map f).sum + ((l.drop i).map f).sum := by
  rw [← List.sum_append_nat, ← List.map_append, List.take_append_drop]
 omega
theorem zYaL (c : Cmd) (z : SzL c) (H : Heap) : callW Φ qZA [.agg (cC c)] H = some (.int .i64 (sizeN c : Nat), H) := by
 have : ∃ hh, evBodyW (callW Φ) qZA.c [.agg (cC c)] [] = some (.int .i64 (sizeN c : Nat), hh) := by
  refine wZg (Nat.le_of_ble_eq_true rfl) (fun env he h0 => ?_)
  have g0 := h0 0 (by simp)
  change eget env 0 = .agg (cC c) at g0
  clear h0
  simp [qZA.c] at he
  have hcc : (V.agg (cC c)).cells = cC c := rfl
  have b0 : evBox [] (cC c) = some (.ptr 0 0, [.cells (cC c)]) := jZU [] _ (by simp [V.isCell])
  have c0 : ∀ off, cellsAt [.cells (cC c)] (.ptr 0 off) = some ((cC c).drop off) := fun off => rfl
  obtain ⟨z1, z2, z3⟩ := z
  unfold bulk at z3
  have h3 := sum3_le c.names
  have w1 := wrap64 (n := (c.s.length : Int) + c.t.length) (by omega) (by omega)
  have w2 := wrap64 (n := (c.s.length : Int) + c.t.length + c.data.length) (by omega) (by omega)
  have w3 := wrap64 (n := 2 * (c.list.length : Int)) (by omega) (by omega)
  have w4 := wrap64 (n := (c.s.length : Int) + c.t.length + c.data.length + 2 * (c.list.length : Int)) (by omega) (by omega)
  simp [qZA.c, qZA.r0, qZA.r1, qZA.r2, g0, he, hcc, b0, c0, vZm, vZi, w1, w2, w3, w4]
  obtain ⟨I, hI⟩ : ∃ I : Nat → St → Prop, I = fun m st => ∃ (i : Nat), m = c.names.length - i ∧ i ≤ c.names.length ∧ (eget st.env 1 = .ptr 0 0 ∧ eget st.env 3 = .int .i64 ((c.s.length + c.t.length + c.data.length + 2 * c.list.length + ((c.names.take i).map fun x => x.length + 3).sum : Nat) : Int) ∧ eget st.env 4 = .int .i64 i ∧ st.env.length = 38) ∧ st.marks = [] ∧ st.heap = [.cells (cC c)] := ⟨_, rfl⟩
  refine kLoop I c.names.length (by rw [hI]; exact ⟨0, rfl, by omega, ⟨by simp [he], by simp [he], by simp [he], by simpa using he⟩, rfl, rfl⟩) ?_
  rintro m ⟨env, mk, Hh⟩ hst
  rw [hI] at hst
  obtain ⟨i, rfl, hi, ⟨k1, k3, k4, hl⟩, hm, hh⟩ := hst
  simp only at k1 k3 k4 hl hm hh
  obtain rfl := hm
  obtain rfl := hh
  obtain ⟨N, hN⟩ : ∃ N, N = c.s.length + c.t.length + c.data.length + 2 * c.list.length + ((c.names.take i).map fun x => x.length + 3).sum := ⟨_, rfl⟩
  rw [← hN] at k3
  have hle := zYaM c.names (fun x => x.length + 3) i
  by_cases cd : i < c.names.length
  ·obtain ⟨x, hx⟩ : ∃ x, c.names[i]? = some x := ⟨_, List.getElem?_eq_getElem cd⟩
   have ia := zYat (h := [.cells (cC c)]) (k := .i64) hx
   have hlx := mem_sum (List.mem_of_getElem? hx)
   have hl2 := xZr c.names
   have wr := wrap64 (n := (i : Int) + 1) (by omega) (by omega)
   have wa := wrap64 (n := (N : Int) + x.length) (by omega) (by omega)
   have wb := wrap64 (n := (N : Int) + x.length + 3) (by omega) (by omega)
   simp only [qZA.b6]
   simp [qZA.r3, qZA.r4, qZA.r5, k1, k3, k4, hl, c0, vZi, cd, ia, cT, vZm, wr, wa, wb]
   refine ⟨c.names.length - (i + 1), by omega, ?_⟩
   rw [hI]
   refine ⟨i + 1, rfl, by omega, ⟨by simp [k1], ?_, by simp [hl], by simp [hl]⟩, rfl, rfl⟩
   rw [sum_take hx]
   simp [hl, hN]
   omega
  ·have hie : i = c.names.length := by omega
   have hNs : N = sizeN c := by rw [hN, hie, List.take_length]; rfl
   have cI : ¬ (i : Int) < c.names.length := by omega
   simp only [qZA.b6]
   simp [qZA.r3, qZA.r7, k1, k3, k4, hl, c0, vZi, cd, cI, hNs]
 obtain ⟨h', hb⟩ := this
 exact qZ7 (h := H) qZA.Φ rfl (args := [.agg (cC c)]) rfl hb rfl
theorem jn_snoc : ∀ (l : List Bs) (x : Bs), jn (l ++ [x]) = if l = [] then x else jn l ++ 32 :: x
 | [], x => by simp [jn]
 | [y], x => by simp [jn]
 | y :: z :: l, x => by
  have ih := jn_snoc (z :: l) x
  have e1 : jn ((y :: z :: l) ++ [x]) = y ++ 32 :: jn ((z :: l) ++ [x]) := by simp [jn]
  have e2 : jn (y :: z :: l) = y ++ 32 :: jn (z :: l) := by simp [jn]
  rw [e1, ih, e2]
  simp
theorem jn_take {α : Type} {f : α → Bs} {l : List α} {i : Nat} {x : α} (h : l[i]? = some x) : jn ((l.take (i + 1)).map f) = if i = 0 then f x else jn ((l.take i).map f) ++ 32 :: f x := by
 have hlt := (List.getElem?_eq_some_iff.1 h).1
 rw [List.take_add_one, h]
 simp only [Option.toList_some, List.map_append, List.map_cons, List.map_nil, jn_snoc]
 by_cases h0 : i = 0
 ·simp [h0]
 ·rw [if_neg h0, if_neg]
  intro e
  have := congrArg List.length e
  rw [List.length_map, List.length_take, List.length_nil] at this
  omega
theorem xZ8 {Hh : Heap} {H : Heap} {o : Option Nat} {l : Bs} {w : V} (hAP : AP H o l w Hh) {n : Int} (hn : ok64 n) (hr : l.length ≤ 2 ^ 45) :
  ∃ w' H3, callW Φ zZT [.int .i64 n] Hh = some (.arr ((itoa n).map cB), Hh) ∧ evApp Hh 1 1 w (.arr ((itoa n).map cB)) = some (w', H3) ∧ AP H o (l ++ itoa n) w' H3 := by
 have := kZ4 hn
 obtain ⟨w', H3, h1, h2⟩ := hAP.app (itoa n) (q := .arr ((itoa n).map cB)) rfl (by omega)
 exact ⟨w', H3, zYaz n hn Hh, h1, h2⟩
end Go.Proofs.Sc
