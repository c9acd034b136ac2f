/- Numbers, units, texts as they are written. Texts as they are written: quoted. No conditions. -/
import Derived.Test.YtcfgiajpbjbdpaaGreatDoorScG
set_option maxHeartbeats 16000000
set_option maxRecDepth 100000
set_option linter.unusedVariables false
set_option linter.unusedSimpArgs false
set_option linter.unusedSectionVars false
namespace Go.Proofs.Sc
open Go Go.Ev
/-! ### Appending -/
theorem VL.add {H : Heap} {by_ : Nat} {v : V} {o : Option Nat} {xs es : List (List V)} (hs : VL H 1 v o xs) (he : plainR 1 es) (hroom : (xs.length + es.length) * by_ ≤ roomB) :
  ∃ v' o' H2, evApp (H ++ [.row 1 es 0 true]) 1 by_ v (.sl H.length 0 0 es.length) = some (v', H2) ∧ VL H2 1 v' o' (xs ++ es) ∧ H.length ≤ H2.length ∧ (∀ j, j < H.length → o ≠ some j → H2[j]? = H[j]?) ∧ ∀ id, o' = some id → o = some id ∨ H.length ≤ id := by
 obtain ⟨v', o', H2, h1, h2, h3, h4, h5⟩ := (hs.push [.row 1 es 0 true]).app (by_ := by_) he (q := .sl H.length 0 0 es.length) (by simp [elemsOf]) hroom
 simp only [List.length_append, List.length_cons, List.length_nil] at h3 h4 h5
 refine ⟨v', o', H2, h1, h2, by omega, fun j hj hne => ?_, fun id hid => (h5 id hid).imp (fun h => h) fun h => by omega⟩
 rw [h4 j (by omega) hne, List.getElem?_append_left hj]
theorem bs1 (H : Heap) (z x : V) (hx : x.isCell = true ∧ x.cells = [x]) : evBslice H [z] 1 1 [(0, x)] = some (.sl H.length 0 0 1, H ++ [.row 1 [[x]] 0 true]) := by
 simp [evBslice, placeParts, hx.1, hx.2, chunks, setRange, qZ5]
theorem bs2 (H : Heap) (z x y : V) (hx : x.isCell = true ∧ x.cells = [x]) (hy : y.isCell = true ∧ y.cells = [y]) : evBslice H [z] 2 1 [(0, x), (1, y)] = some (.sl H.length 0 0 2, H ++ [.row 1 [[x], [y]] 0 true]) := by
 simp [evBslice, placeParts, hx.1, hx.2, hy.1, hy.2, chunks, setRange, qZ5]
theorem plainB (l : Bs) : plainR 1 (l.map cB) := plainR.map (enc := cB) (fun _ => rfl) (fun _ => rfl) (fun _ => rfl) l
theorem xZq {H : Heap} {v : V} {o : Option Nat} {l : Bs} (hv : VL H 1 v o (l.map cB)) : evConv H .bytesStr v = some (T l, H) := by
 have hb : bytesIn H v = some (l.map cB) := by
  rcases hv with ⟨rfl | rfl, hl, _⟩ | ⟨id, ep, _, rfl, hr, _⟩
  ·simp [bytesIn, elemsOf, hl]
  ·simp [bytesIn, elemsOf, hl]
  ·simp [bytesIn, elemsOf, hr, List.take_of_length_le]
 simp [evConv, hb, zYaE, okV]
/-! ### Numbers -/
theorem dec_lib (n : Nat) : Lib.decDigits n = dec n := by
 induction n using Nat.strongRecOn with
 | _ n ih =>
  rw [Lib.decDigits, dec]
  split
  ·rfl
  ·rw [ih _ (by omega)]
theorem itoa_lib (n : Int) : Lib.itoa n = itoa n := by
 unfold Lib.itoa itoa
 rw [dec_lib, dec_lib]
 split
 ·rfl
 ·congr 1; omega
theorem zYaG {n : Int} (h : ok64 n) (H : Heap) : callW Φ strconv_Itoa [.int .i64 n] H = some (T (itoa n), H) := by
 refine prim1 strconv_Itoa.Φ ?_
 simp only [evPrim]
 rw [if_pos ⟨h.1, by have := h.2; omega⟩, itoa_lib]
 simp [okV, fV_eq]
theorem dec_len (n : Nat) (k : Nat) (h : n < 10 ^ k) (hk : 1 ≤ k) : (dec n).length ≤ k := by
 induction n using Nat.strongRecOn generalizing k with
 | _ n ih =>
  rw [dec]
  split
  ·simp; omega
  ·cases k with
   | zero => omega
   | succ k =>
    have hk1 : 1 ≤ k := by
     cases k with
     | zero => simp at h; omega
     | succ k => omega
    have := ih (n / 10) (by omega) k (by rw [Nat.pow_succ] at h; omega) hk1
    simp
    omega
theorem kZ4 {n : Int} (h : ok64 n) : (itoa n).length ≤ 20 := by
 obtain ⟨h1, h2⟩ := h
 have := dec_len n.natAbs 19 (by omega) (by omega)
 unfold itoa
 split
 ·simp; omega
 ·omega
/-! ### Units -/
theorem kZ2 (s : Bs) (hz : s.length < 2 ^ 40) (H : Heap) : callW Φ zZ8 [T s] H = some (.arr ((s.map fun b => b.toNat).map cU), H) := by
 refine xZ5 zZ8.Φ rfl (args := [T s]) rfl ?_
 obtain ⟨P, hP⟩ : ∃ P : V → Heap → Prop, P = fun r h2 => ∃ h3, fz fzDepth h2 r = some (.arr ((s.map fun b => b.toNat).map cU), h3) := ⟨_, rfl⟩
 suffices hgo : ∃ r h', evBodyW (callW Φ) zZ8.c [T s] [] = some (r, h') ∧ P r h' by rw [hP] at hgo; exact hgo
 have hPz : ∀ r h2 h3, fz fzDepth h2 r = some (.arr ((s.map fun b => b.toNat).map cU), h3) → P r h2 := fun r h2 h3 hz => by rw [hP]; exact ⟨h3, hz⟩
 have hPn : ∀ r h2, flatN2 r = true → nz2 r = .arr ((s.map fun b => b.toNat).map cU) → P r h2 := fun r h2 h h1 => hPz r h2 h2 (by rw [← h1]; exact wZl h)
 clear hP
 refine xZ4 (Nat.le_of_ble_eq_true rfl) (fun env he h0 => ?_)
 have g0 := h0 0 (by simp)
 change eget env 0 = T s at g0
 clear h0
 simp [zZ8.c] at he
 simp [zZ8.c, zZ8.r0, zZ8.r1, zZ8.r2, zZ8.r8, g0, he, vZm]
 obtain ⟨I, hI⟩ : ∃ I : Nat → St → Prop, I = fun m st => ∃ (i : Nat) (v : V) (o : Option Nat), m = s.length - i ∧ i ≤ s.length ∧ eget st.env 0 = T s ∧ eget st.env 3 = v ∧ eget st.env 6 = .int .i64 s.length ∧ eget st.env 7 = .int .i64 i ∧ st.env.length = 19 ∧ st.marks = [] ∧ VL st.heap 1 v o (((s.take i).map fun b => b.toNat).map cU) := ⟨_, rfl⟩
 refine kLoop I s.length (by rw [hI]; exact ⟨0, .nils, none, rfl, by omega, by simpa using g0, by simp [he], by simp [he], by simp [he], by simpa using he, rfl, VL.nil _ _⟩) ?_
 rintro m ⟨env, mk, Hh⟩ hst
 rw [hI] at hst
 obtain ⟨i, v, o, rfl, hi, k0, k3, k6, k7, hl, hm, hv⟩ := hst
 simp only at k0 k3 k6 k7 hl hm hv
 obtain rfl := hm
 by_cases c : i < s.length
 ·obtain ⟨b, hb⟩ : ∃ b, s[i]? = some b := ⟨_, List.getElem?_eq_getElem c⟩
  have ix := idx_T (h := Hh) (k := .i64) (n := (i : Int)) (by omega) (by simpa using hb)
  have wr := wrap64 (n := (i : Int) + 1) (by omega) (by omega)
  have hb' := b.toNat_lt
  have w16 : IntKind.u16.wrap (b.toNat : Int) = b.toNat := by
   simp only [IntKind.wrap, IntKind.bits, IntKind.signed, Bool.false_and, Bool.false_eq_true, if_false]; omega
  have hbs := bs1 Hh (.int .u16 0) (.int .u16 b.toNat) ⟨rfl, rfl⟩
  obtain ⟨v', o', H2, ha, hv2, hl2, hrest, hnew⟩ := hv.add (by_ := 2) (es := [cU b.toNat]) (plainU [b.toNat]) (by simp [roomB]; omega)
  simp only [cU, List.length_cons, List.length_nil] at ha
  simp [zZ8.b7, zZ8.r3, zZ8.r4, zZ8.r5, zZ8.r6, k0, k3, k6, k7, hl, c, ix, evConv, w16, hbs, ha, wr]
  refine ⟨s.length - (i + 1), by omega, ?_⟩
  rw [hI]
  refine ⟨i + 1, v', o', rfl, by omega, by simp [k0], by simp [hl], by simp [k6], by simp [hl], by simp [hl], rfl, ?_⟩
  rw [List.take_add_one, hb]
  simpa [cU] using hv2
 ·have hie : i = s.length := by omega
  rw [hie, List.take_length] at hv
  obtain ⟨h3, hz3, _⟩ := hv.fz (d := 62)
  have hPf := hPz _ _ _ hz3
  simp [zZ8.b7, zZ8.r3, zZ8.r4, zZ8.r5, zZ8.r6, zZ8.c, zZ8.r0, zZ8.r1, zZ8.r2, zZ8.r8, k0, k3, k6, k7, hl, c, hPf]
theorem zYab (l : List Nat) (hz : l.length < 2 ^ 40) (hb : ∀ u ∈ l, u < 256) (H : Heap) : callW Φ zZ3 [.arr (l.map cU)] H = some (.arr ((narrow l).map cB), H) := by
 refine xZ5 zZ3.Φ rfl (args := [.arr (l.map cU)]) rfl ?_
 obtain ⟨P, hP⟩ : ∃ P : V → Heap → Prop, P = fun r h2 => ∃ h3, fz fzDepth h2 r = some (.arr ((narrow l).map cB), h3) := ⟨_, rfl⟩
 suffices hgo : ∃ r h', evBodyW (callW Φ) zZ3.c [.arr (l.map cU)] [] = some (r, h') ∧ P r h' by rw [hP] at hgo; exact hgo
 have hPz : ∀ r h2 h3, fz fzDepth h2 r = some (.arr ((narrow l).map cB), h3) → P r h2 := fun r h2 h3 hz => by rw [hP]; exact ⟨h3, hz⟩
 have hPn : ∀ r h2, flatN2 r = true → nz2 r = .arr ((narrow l).map cB) → P r h2 := fun r h2 h h1 => hPz r h2 h2 (by rw [← h1]; exact wZl h)
 clear hP
 refine xZ4 (Nat.le_of_ble_eq_true rfl) (fun env he h0 => ?_)
 have g0 := h0 0 (by simp)
 change eget env 0 = .arr (l.map cU) at g0
 clear h0
 simp [zZ3.c] at he
 simp [zZ3.c, zZ3.r0, zZ3.r1, zZ3.r2, zZ3.r8, g0, he]
 obtain ⟨I, hI⟩ : ∃ I : Nat → St → Prop, I = fun m st => ∃ (i : Nat) (v : V) (o : Option Nat), m = l.length - i ∧ i ≤ l.length ∧ eget st.env 6 = .arr (l.map cU) ∧ eget st.env 3 = v ∧ eget st.env 7 = .int .i64 l.length ∧ eget st.env 8 = .int .i64 i ∧ st.env.length = 19 ∧ st.marks = [] ∧ VL st.heap 1 v o ((narrow (l.take i)).map cB) := ⟨_, rfl⟩
 refine kLoop I l.length (by rw [hI]; exact ⟨0, .nils, none, rfl, by omega, by simp [he], by simp [he], by simp [he], by simp [he], by simpa using he, rfl, VL.nil _ _⟩) ?_
 rintro m ⟨env, mk, Hh⟩ hst
 rw [hI] at hst
 obtain ⟨i, v, o, rfl, hi, k6, k3, k7, k8, hl, hm, hv⟩ := hst
 simp only at k6 k3 k7 k8 hl hm hv
 obtain rfl := hm
 by_cases c : i < l.length
 ·obtain ⟨u, hu⟩ : ∃ u, l[i]? = some u := ⟨_, List.getElem?_eq_getElem c⟩
  have hu2 := hb u (List.mem_of_getElem? hu)
  have ia := zYal (h := Hh) (k := .i64) hu
  have wr := wrap64 (n := (i : Int) + 1) (by omega) (by omega)
  have w8 := wrap8 (n := (u : Int)) (by omega) (by omega)
  have hbs := bs1 Hh (.int .u8 0) (.int .u8 u) ⟨rfl, rfl⟩
  obtain ⟨v', o', H2, ha, hv2, hl2, hrest, hnew⟩ := hv.add (by_ := 1) (es := [cB (UInt8.ofNat u)]) (plainB [UInt8.ofNat u]) (by simp [roomB, narrow]; omega)
  simp only [cB, u8_of hu2, List.length_cons, List.length_nil] at ha
  simp [zZ3.b7, zZ3.r3, zZ3.r4, zZ3.r5, zZ3.r6, k6, k3, k7, k8, hl, c, ia, cU, evConv, w8, hbs, ha, wr]
  refine ⟨l.length - (i + 1), by omega, ?_⟩
  rw [hI]
  refine ⟨i + 1, v', o', rfl, by omega, by simp [k6, cU], by simp [hl], by simp [k7], by simp [hl], by simp [hl], rfl, ?_⟩
  rw [List.take_add_one, hu]
  simpa [narrow] using hv2
 ·have hie : i = l.length := by omega
  rw [hie, List.take_length] at hv
  obtain ⟨h3, hz3, _⟩ := hv.fz (d := 62)
  have hPf := hPz _ _ _ hz3
  simp [zZ3.b7, zZ3.r3, zZ3.r4, zZ3.r5, zZ3.r6, zZ3.c, zZ3.r0, zZ3.r1, zZ3.r2, zZ3.r8, k6, k3, k7, k8, hl, c, hPf]
theorem kZ3 (u : Nat) (h : u < 65536) (H : Heap) : callW Φ qZP [.int .u16 u] H = some (.bool (shown u), H) := by
 have : ∃ hh, evBodyW (callW Φ) qZP.c [.int .u16 u] [] = some (.bool (shown u), hh) := by
  refine wZg (Nat.le_of_ble_eq_true rfl) (fun env he h0 => ?_)
  have g0 := h0 0 (by simp)
  change eget env 0 = .int .u16 u at g0
  clear h0
  simp [qZP.c] at he
  by_cases c : 32 ≤ u <;> by_cases d : u ≤ 126
  all_goals
   have c1 : ((32 : Int) ≤ (u : Int)) = (32 ≤ u) := by simp; omega
   have d1 : ((u : Int) ≤ 126) = (u ≤ 126) := by simp; omega
   simp [qZP.c, qZP.r0, qZP.r1, g0, he, c, d, c1, d1, evPick, shown]
 obtain ⟨h', hb⟩ := this
 exact qZ7 (h := H) qZP.Φ rfl (args := [.int .u16 u]) rfl hb rfl
theorem xZo (u : Nat) (h : u < 65536) (H : Heap) : callW Φ qZS [.int .u16 u] H = some (.bool (bare u), H) := by
 have : ∃ hh, evBodyW (callW Φ) qZS.c [.int .u16 u] [] = some (.bool (bare u), hh) := by
  refine wZg (Nat.le_of_ble_eq_true rfl) (fun env he h0 => ?_)
  have g0 := h0 0 (by simp)
  change eget env 0 = .int .u16 u at g0
  clear h0
  simp [qZS.c] at he
  have hp := kZ3 u h
  cases hs : shown u
  ·simp [qZS.c, qZS.r0, qZS.r1, g0, he, hp, hs, evPick, bare]
  ·obtain ⟨b1, hb1⟩ : ∃ b1, b1 = ((u : Int) != 34) := ⟨_, rfl⟩
   obtain ⟨b2, hb2⟩ : ∃ b2, b2 = ((u : Int) != 92) := ⟨_, rfl⟩
   have hres : bare u = (b1 && b2) := by
    rw [hb1, hb2, Bool.eq_iff_iff]
    simp [bare, hs]
    omega
   cases b1 <;> cases b2 <;> simp [qZS.c, qZS.r0, qZS.r1, g0, he, hp, hs, evPick, ← hb1, ← hb2, hres]
 obtain ⟨h', hb⟩ := this
 exact qZ7 (h := H) qZS.Φ rfl (args := [.int .u16 u]) rfl hb rfl
open Go Go.Ev
/-! ### Digits -/
def hexT : Bs := [48, 49, 50, 51, 52, 53, 54, 55, 56, 57, 97, 98, 99, 100, 101, 102]
theorem hexT_get {d : Nat} (h : d < 16) : hexT[d]? = some (hx d) := (show ∀ d : Fin 16, hexT[d.val]? = some (hx d.val) by decide) ⟨d, h⟩
theorem hexs_get : ∀ (k u d : Nat), d < k → (hexs k u)[d]? = some (hx (u / 16 ^ (k - 1 - d) % 16))
 | 0, u, d, h => by omega
 | k + 1, u, 0, h => by simp [hexs]
 | k + 1, u, d + 1, h => by
  have : k + 1 - 1 - (d + 1) = k - 1 - d := by omega
  rw [hexs, List.getElem?_cons_succ, hexs_get k u d (by omega), this]
theorem shr_u16 {u j : Nat} (hj : j < 4) : binV .shr (.int .u16 u) (.int .i64 (4 * (j : Int))) = some (.int .u16 (u / 16 ^ j : Nat)) := by
 have hm : min (4 * j) 16 = 4 * j := by omega
 have h0 : ¬ (4 * (j : Int)) < 0 := by omega
 have h1 : (4 * (j : Int)).toNat = 4 * j := by omega
 have hb : IntKind.u16.bits = 16 := rfl
 simp only [binV, h0, if_false, h1, hb, hm]
 congr 2
 have : (2 : Int) ^ (4 * j) = ((16 ^ j : Nat) : Int) := by
  rw [Int.pow_mul]
  simp
 rw [this]
 rw [Int.fdiv_eq_ediv_of_nonneg _ (Int.natCast_nonneg _)]
 simp
theorem and_u16 {x : Nat} (hx : x < 65536) : binV .and (.int .u16 x) (.int .u16 15) = some (.int .u16 (x % 16 : Nat)) := by
 have hb : IntKind.u16.bits = 16 := rfl
 have e1 : (BitVec.ofInt 16 (x : Int)) = BitVec.ofNat 16 x := by simp
 have e2 : (BitVec.ofInt 16 (15 : Int)) = BitVec.ofNat 16 15 := rfl
 have e3 : (BitVec.ofNat 16 x &&& BitVec.ofNat 16 15).toNat = x % 16 := by
  rw [BitVec.toNat_and]
  simp only [BitVec.toNat_ofNat]
  have : x % 2 ^ 16 = x := Nat.mod_eq_of_lt hx
  rw [this]
  have := Nat.and_two_pow_sub_one_eq_mod x 4
  simpa using this
 show some (V.int .u16 (IntKind.u16.wrap ((BitVec.ofInt 16 (x : Int) &&& BitVec.ofInt 16 15).toNat : Nat))) = _
 rw [e1, e2, e3]
 congr 2
 simp only [IntKind.wrap, hb, IntKind.signed, Bool.false_and, Bool.false_eq_true, if_false]
 omega
theorem q1_len {k : Nat} (hk : k ≤ 4) (y : UInt8) (u : Nat) : (q1 k y u).length ≤ 6 := by
 unfold q1
 split
 ·simp
 ·split
  ·simp
  ·simp [zYak]; omega
theorem xZp {k : Nat} (hk : k ≤ 4) (y : UInt8) : ∀ l : List Nat, (l.flatMap (q1 k y)).length ≤ 6 * l.length
 | [] => by simp
 | u :: l => by
  have := xZp hk y l
  have := q1_len hk y u
  simp only [List.flatMap_cons, List.length_append, List.length_cons]
  omega
theorem quote_len {k : Nat} (hk : k ≤ 4) (y : UInt8) (l : List Nat) : (quoteU k y l).length ≤ 6 * l.length + 2 := by
 have := xZp hk y l
 simp only [quoteU, List.length_cons, List.length_append, List.length_nil]
 omega
theorem kZZ (k : Nat) (y : UInt8) (hk : 1 ≤ k ∧ k ≤ 4) (l : List Nat) (hz : l.length < 2 ^ 40) (hb : ∀ u ∈ l, u < 65536) (H : Heap) : callW Φ zZB [.arr (l.map cU), .int .i64 k, .int .u8 y.toNat] H = some (T (quoteU k y l), H) := by
 have : ∃ hh, evBodyW (callW Φ) zZB.c [.arr (l.map cU), .int .i64 k, .int .u8 y.toNat] [] = some (T (quoteU k y l), hh) := by
  refine wZg (Nat.le_of_ble_eq_true rfl) (fun env he h0 => ?_)
  have g0 := h0 0 (by simp)
  change eget env 0 = .arr (l.map cU) at g0
  have g1 := h0 1 (by simp)
  change eget env 1 = .int .i64 k at g1
  have g2 := h0 2 (by simp)
  change eget env 2 = .int .u8 y.toNat at g2
  clear h0
  simp [zZB.c] at he
  have hy := y.toNat_lt
  have hbs0 := bs1 [] (.int .u8 0) (.int .u8 34) ⟨rfl, rfl⟩
  obtain ⟨k1, k4⟩ := hk
  simp [zZB.c, zZB.r0, zZB.r1, zZB.r2, zZB.r17, g0, g1, g2, he, hbs0]
  obtain ⟨I, hI⟩ : ∃ I : Nat → St → Prop, I = fun m st => ∃ (i : Nat) (v : V) (o : Option Nat), m = l.length - i ∧ i ≤ l.length ∧ (eget st.env 1 = .int .i64 k ∧ eget st.env 2 = .int .u8 y.toNat ∧ eget st.env 7 = v ∧ eget st.env 12 = .arr (l.map cU) ∧ eget st.env 13 = .int .i64 l.length ∧ eget st.env 14 = .int .i64 i ∧ st.env.length = 58) ∧ st.marks = [] ∧ VL st.heap 1 v o ((34 :: (l.take i).flatMap (q1 k y)).map cB) := ⟨_, rfl⟩
  refine kLoop I l.length (by rw [hI]; exact ⟨0, .sl 0 0 0 1, some 0, rfl, by omega, ⟨by simp [g1], by simp [g2], by simp [he], by simp [he], by simp [he], by simp [he], by simpa using he⟩, rfl, .inr ⟨0, 0, rfl, rfl, rfl, plainB [34]⟩⟩) ?_
  rintro m ⟨env, mk, Hh⟩ hst
  rw [hI] at hst
  obtain ⟨i, v, o, rfl, hi, ⟨e1, e2, e7, e12, e13, e14, hl⟩, hm, hv⟩ := hst
  simp only at e1 e2 e7 e12 e13 e14 hl hm hv
  obtain rfl := hm
  have hlen : (34 :: (l.take i).flatMap (q1 k y)).length ≤ 1 + 6 * i := by
   have := xZp k4 y (l.take i)
   rw [List.length_take, Nat.min_eq_left hi] at this
   rw [List.length_cons]
   omega
  by_cases c : i < l.length
  ·obtain ⟨u, hu⟩ : ∃ u, l[i]? = some u := ⟨_, List.getElem?_eq_getElem c⟩
   have hu2 := hb u (List.mem_of_getElem? hu)
   have ia := zYal (h := Hh) (k := .i64) hu
   have wr := wrap64 (n := (i : Int) + 1) (by omega) (by omega)
   have hbr := fun H => xZo u hu2 H
   have hpl := fun H => kZ3 u hu2 H
   have htk : (l.take (i + 1)).flatMap (q1 k y) = (l.take i).flatMap (q1 k y) ++ q1 k y u := by rw [List.take_add_one, hu]; simp
   have fin : ∀ (st : St) (v' : V) (o' : Option Nat), st.marks = [] → eget st.env 1 = .int .i64 k → eget st.env 2 = .int .u8 y.toNat → eget st.env 7 = v' → eget st.env 12 = .arr (l.map cU) → eget st.env 13 = .int .i64 l.length → eget st.env 14 = .int .i64 (i + 1 : Nat) → st.env.length = 58 →
     VL st.heap 1 v' o' ((34 :: (l.take i).flatMap (q1 k y)).map cB ++ (q1 k y u).map cB) → ∃ j, j < l.length - i ∧ I j st := fun st v' o' hm a1 a2 a7 a12 a13 a14 al hv => by
    refine ⟨l.length - (i + 1), by omega, ?_⟩
    rw [hI]
    refine ⟨i + 1, v', o', rfl, by omega, ⟨a1, a2, a7, a12, a13, a14, al⟩, hm, ?_⟩
    rw [htk]
    simpa using hv
   have roomOk : ∀ n, n ≤ 7 → ((34 :: (l.take i).flatMap (q1 k y)).map cB).length + n ≤ 1 + 6 * i + 7 := fun n hn => by rw [List.length_map]; omega
   by_cases hbare : bare u = true
   ·have hs : 32 ≤ u ∧ u ≤ 126 := by simp [bare, shown] at hbare; omega
    have w8 := wrap8 (n := (u : Int)) (by omega) (by omega)
    have hbs := bs1 Hh (.int .u8 0) (.int .u8 u) ⟨rfl, rfl⟩
    obtain ⟨v', o', H2, ha, hv2, hl2, hrest, hnew⟩ := hv.add (by_ := 1) (es := [cB (UInt8.ofNat u)]) (plainB [UInt8.ofNat u]) (by have := roomOk 1 (by omega); simp only [List.length_cons, List.length_nil]; unfold roomB; omega)
    simp only [cB, u8_of (show u < 256 by omega), List.length_cons, List.length_nil] at ha
    have hq : q1 k y u = [UInt8.ofNat u] := by simp [q1, hbare]
    simp [zZB.b14, zZB.b16, zZB.r3, zZB.r4, zZB.r5, zZB.r6, zZB.r7, zZB.r8, zZB.r9, zZB.r10, zZB.r11, zZB.r12, zZB.r13, zZB.r15, e1, e2, e7, e12, e13, e14, hl, c, ia, cU, hbr, hbare, evConv, w8, hbs, ha, wr]
    exact fin _ v' o' rfl (by simp [e1]) (by simp [e2]) (by simp [hl]) (by simp [e12, cU]) (by simp [e13]) (by simp [hl]) (by simp [hl]) (by rw [hq]; exact hv2)
   ·by_cases hsh : shown u = true
    ·have hs : 32 ≤ u ∧ u ≤ 126 := by simp [shown] at hsh; omega
     have w8 := wrap8 (n := (u : Int)) (by omega) (by omega)
     have hbs := bs2 Hh (.int .u8 0) (.int .u8 92) (.int .u8 u) ⟨rfl, rfl⟩ ⟨rfl, rfl⟩
     obtain ⟨v', o', H2, ha, hv2, hl2, hrest, hnew⟩ := hv.add (by_ := 1) (es := [cB 92, cB (UInt8.ofNat u)]) (plainB [92, UInt8.ofNat u]) (by have := roomOk 2 (by omega); simp only [List.length_cons, List.length_nil]; unfold roomB; omega)
     simp only [cB, u8_of (show u < 256 by omega), List.length_cons, List.length_nil] at ha
     have h92 : (((92 : UInt8).toNat : Nat) : Int) = 92 := rfl
     rw [h92] at ha
     have hq : q1 k y u = [92, UInt8.ofNat u] := by simp [q1, hbare, hsh]
     simp [zZB.b14, zZB.b16, zZB.r3, zZB.r4, zZB.r5, zZB.r6, zZB.r7, zZB.r8, zZB.r9, zZB.r10, zZB.r11, zZB.r12, zZB.r13, zZB.r15, e1, e2, e7, e12, e13, e14, hl, c, ia, cU, hbr, hbare, hpl, hsh, evConv, w8, hbs, ha, wr]
     exact fin _ v' o' rfl (by simp [e1]) (by simp [e2]) (by simp [hl]) (by simp [e12, cU]) (by simp [e13]) (by simp [hl]) (by simp [hl]) (by rw [hq]; exact hv2)
    ·have hbs := bs2 Hh (.int .u8 0) (.int .u8 92) (.int .u8 y.toNat) ⟨rfl, rfl⟩ ⟨rfl, rfl⟩
     obtain ⟨v', o', H2, ha, hv2, hl2, hrest, hnew⟩ := hv.add (by_ := 1) (es := [cB 92, cB y]) (plainB [92, y]) (by have := roomOk 2 (by omega); simp only [List.length_cons, List.length_nil]; unfold roomB; omega)
     simp only [cB, List.length_cons, List.length_nil] at ha
     have h92 : (((92 : UInt8).toNat : Nat) : Int) = 92 := rfl
     rw [h92] at ha
     have hq : q1 k y u = 92 :: y :: hexs k u := by simp [q1, hbare, hsh]
     have wk := wrap64 (n := (k : Int) - 1) (by omega) (by omega)
     simp [zZB.b14, zZB.b16, zZB.r3, zZB.r4, zZB.r5, zZB.r6, zZB.r7, zZB.r8, zZB.r9, zZB.r10, zZB.r11, zZB.r12, zZB.r13, zZB.r15, e1, e2, e7, e12, e13, e14, hl, c, ia, cU, hbr, hbare, hpl, hsh, hbs, ha, wk]
     obtain ⟨J, hJ⟩ : ∃ J : Nat → St → Prop, J = fun m st => ∃ (d : Nat) (v : V) (o : Option Nat), m = k - d ∧ d ≤ k ∧ (eget st.env 1 = .int .i64 k ∧ eget st.env 2 = .int .u8 y.toNat ∧ eget st.env 7 = v ∧ eget st.env 12 = .arr (l.map cU) ∧ eget st.env 13 = .int .i64 l.length ∧ eget st.env 14 = .int .i64 i ∧ st.env.length = 58) ∧ eget st.env 9 = .int .u16 u ∧ eget st.env 10 = .int .i64 ((k : Int) - 1 - d) ∧ st.marks = [] ∧ VL st.heap 1 v o ((34 :: (l.take i).flatMap (q1 k y)).map cB ++ ([92, y] ++ (hexs k u).take d).map cB) := ⟨_, rfl⟩
     refine kLoop J k (by
      rw [hJ]
      exact ⟨0, v', o', rfl, by omega, ⟨by simp [e1], by simp [e2], by simp [hl], by simp [e12, cU], by simp [e13], by simp [e14], by simp [hl]⟩, by simp [hl], by simp [hl], rfl, by simpa using hv2⟩) ?_
     rintro m ⟨env, mk, Hh⟩ hst
     rw [hJ] at hst
     obtain ⟨d, v, o, rfl, hd, ⟨e1, e2, e7, e12, e13, e14, hl⟩, e9, e10, hm, hv⟩ := hst
     simp only at e1 e2 e7 e12 e13 e14 hl e9 e10 hm hv
     obtain rfl := hm
     by_cases cd : d < k
     ·have hj0 : (0 : Int) ≤ (k : Int) - 1 - d := by omega
      obtain ⟨j, hj⟩ : ∃ j : Nat, j = k - 1 - d := ⟨_, rfl⟩
      have hj' : (k : Int) - 1 - d = (j : Nat) := by omega
      rw [hj'] at e10 hj0
      have wm : IntKind.i64.wrap (4 * (j : Int)) = 4 * (j : Int) := wrap64 (by omega) (by omega)
      have hsr := shr_u16 (u := u) (j := j) (by omega)
      have hg := hexs_get k u d cd
      rw [← hj] at hg
      have hux : u / 16 ^ j < 65536 := Nat.lt_of_le_of_lt (Nat.div_le_self _ _) hu2
      obtain ⟨x, hxd⟩ : ∃ x, x = u / 16 ^ j := ⟨_, rfl⟩
      rw [← hxd] at hux hsr hg
      have han := and_u16 hux
      have hdg : x % 16 < 16 := Nat.mod_lt _ (by omega)
      obtain ⟨z, hzd⟩ : ∃ z, z = x % 16 := ⟨_, rfl⟩
      rw [← hzd] at han hdg hg
      have ix := idx_T (h := Hh) (l := hexT) (k := .u16) (n := (z : Int)) (by omega) (by rw [Int.toNat_natCast]; exact hexT_get hdg)
      have ix2 : evIdxS Hh (.str ⟨#[48, 49, 50, 51, 52, 53, 54, 55, 56, 57, 97, 98, 99, 100, 101, 102]⟩) (.int .u16 (z : Int)) = some (.int .u8 (hx z).toNat, Hh) := ix
      have hbs := bs1 Hh (.int .u8 0) (.int .u8 (hx z).toNat) ⟨rfl, rfl⟩
      obtain ⟨v', o', H2, ha, hv2, hl2, hrest, hnew⟩ := hv.add (by_ := 1) (es := [cB (hx z)]) (plainB [hx z]) (by
       have := roomOk 0 (by omega)
       have h5 : ((hexs k u).take d).length ≤ 4 := by rw [List.length_take, zYak]; omega
       simp only [List.length_append, List.length_map, List.length_cons, List.length_nil] at this h5 ⊢
       unfold roomB
       omega)
      simp only [cB, List.length_cons, List.length_nil] at ha
      have w1 : IntKind.i64.wrap ((j : Int) - 1) = (j : Int) - 1 := wrap64 (by omega) (by omega)
      simp only [zZB.b14]
      simp [zZB.r11, zZB.r12, zZB.r13, e1, e2, e7, e9, e10, e12, e13, e14, hl, wm, hsr, han, ix2, hbs, ha, w1]
      refine ⟨k - (d + 1), by omega, ?_⟩
      rw [hJ]
      refine ⟨d + 1, v', o', rfl, by omega, ⟨by simp [e1], by simp [e2], by simp [hl], by simp [e12], by simp [e13], by simp [e14], by simp [hl]⟩, by simp [e9], by simp [hl]; omega, rfl, ?_⟩
      have ht : (hexs k u).take (d + 1) = (hexs k u).take d ++ [hx z] := by rw [List.take_add_one, hg]; rfl
      rw [ht]
      simpa using hv2
     ·have hdk : d = k := by omega
      have hneg : (k : Int) - 1 - d = -1 := by omega
      rw [hneg] at e10
      simp only [zZB.b14]
      simp [zZB.r11, zZB.r15, e1, e2, e7, e9, e10, e12, e13, e14, hl, wr]
      refine fin _ v o rfl (by simp [e1]) (by simp [e2]) (by simp [e7]) (by simp [e12]) (by simp [e13]) (by simp [hl]) (by simp [hl]) ?_
      have hfull : (hexs k u).take d = hexs k u := List.take_of_length_le (by rw [zYak]; omega)
      rw [hfull] at hv
      rw [hq]
      simpa using hv
  ·have hie : i = l.length := by omega
   rw [hie, List.take_length] at hv
   have hbs := bs1 Hh (.int .u8 0) (.int .u8 34) ⟨rfl, rfl⟩
   obtain ⟨v', o', H2, ha, hv2, hl2, hrest, hnew⟩ := hv.add (by_ := 1) (es := [cB 34]) (plainB [34]) (by
    have := xZp k4 y l
    simp only [List.length_map, List.length_cons, List.length_nil] at this ⊢
    unfold roomB
    omega)
   simp only [cB, List.length_cons, List.length_nil] at ha
   have h34 : (((34 : UInt8).toNat : Nat) : Int) = 34 := rfl
   rw [h34] at ha
   have hconv := xZq (H := H2) (v := v') (o := o') (l := quoteU k y l) (by simpa [quoteU, cB] using hv2)
   simp [zZB.b14, zZB.b16, zZB.r3, zZB.r4, zZB.r5, zZB.r6, zZB.r7, zZB.r8, zZB.r9, zZB.r10, zZB.r11, zZB.r12, zZB.r13, zZB.r15, zZB.c, zZB.r0, zZB.r1, zZB.r2, zZB.r17, e1, e2, e7, e12, e13, e14, hl, c, hbs, ha, hconv]
 obtain ⟨h', hb⟩ := this
 exact qZ7 (h := H) zZB.Φ rfl (args := [.arr (l.map cU), .int .i64 k, .int .u8 y.toNat]) rfl hb rfl
end Go.Proofs.Sc
