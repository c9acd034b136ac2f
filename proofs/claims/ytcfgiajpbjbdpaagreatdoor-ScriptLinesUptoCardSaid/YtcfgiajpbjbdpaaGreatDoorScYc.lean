/- The book's hexadecimal digits. The book's quoted texts. The book's texts and lists read. No conditions. -/
import Derived.Test.YtcfgiajpbjbdpaaGreatDoorScYb
set_option maxHeartbeats 16000000
set_option maxRecDepth 100000
set_option linter.unusedVariables false
set_option linter.unusedSimpArgs false
set_option linter.unusedSectionVars false
namespace Go.Proofs.Sc
open Go Go.Ev
theorem hx_hdB (b : UInt8) {d : Nat} (h : d < 16) : (hx d == b) = decide (hd b = some d) := by
 have h2 : ∀ n : Fin 256, ∀ d : Fin 16, (hx d.val == UInt8.ofNat n.val) = decide (hd (UInt8.ofNat n.val) = some d.val) := by decide +kernel
 have := h2 ⟨b.toNat, b.toNat_lt⟩ ⟨d, h⟩
 simpa using this
def dI (b : UInt8) (k : Nat) : Nat := match hd b with
 | some x => if x < k then x else 99
 | none => 99
theorem dI_next (b : UInt8) {k : Nat} : dI b (k + 1) = if hd b = some k then k else dI b k := by
 unfold dI
 cases h : hd b with
 | none => simp
 | some x =>
  simp only [Option.some.injEq]
  by_cases h1 : x = k
  ·subst h1; simp
  ·by_cases h2 : x < k
   ·rw [if_pos (by omega), if_neg h1, if_pos h2]
   ·rw [if_neg (by omega), if_neg h1, if_neg h2]
theorem dI_end (b : UInt8) : dI b 16 = match hd b with
  | some x => x
  | none => 99 := by
 unfold dI
 cases h : hd b with
 | none => rfl
 | some x => simp [hd_lt h]
theorem zYaP (s : Bs) (a k : Nat) (hz : s.length < 2 ^ 40) (ha : a ≤ 2 ^ 41) (hk : k ≤ 4) (H : Heap) : callW Φ zZY [T s, .int .i64 a, .int .i64 k] H = some (.tup [.int .u16 ((hexv k (s.drop a) 0).getD 0 : Nat), .bool (hexv k (s.drop a) 0).isSome], H) := by
 have : ∃ hh, evBodyW (callW Φ) zZY.c [T s, .int .i64 a, .int .i64 k] [] = some (.tup [.int .u16 ((hexv k (s.drop a) 0).getD 0 : Nat), .bool (hexv k (s.drop a) 0).isSome], hh) := by
  refine wZg (Nat.le_of_ble_eq_true rfl) (fun env he h0 => ?_)
  have g0 := h0 0 (by simp)
  change eget env 0 = T s at g0
  have g1 := h0 1 (by simp)
  change eget env 1 = .int .i64 a at g1
  have g2 := h0 2 (by simp)
  change eget env 2 = .int .i64 k at g2
  clear h0
  simp [zZY.c] at he
  simp [zZY.c, zZY.r0, zZY.r1, zZY.r2, he]
  obtain ⟨I, hI⟩ : ∃ I : Nat → St → Prop, I = fun m st => ∃ (i u : Nat), m = k - i ∧ i ≤ k ∧ (eget st.env 0 = T s ∧ eget st.env 1 = .int .i64 a ∧ eget st.env 2 = .int .i64 k ∧ eget st.env 8 = .int .u16 u ∧ eget st.env 9 = .int .i64 i ∧ st.env.length = 44) ∧ st.marks = [] ∧ st.heap = [] ∧ u < 16 ^ i ∧ hexv k (s.drop a) 0 = hexv (k - i) (s.drop (a + i)) u := ⟨_, rfl⟩
  refine kLoop I k (by rw [hI]; exact ⟨0, 0, rfl, by omega, ⟨by simp [g0], by simp [g1], by simp [g2], by simp [he], by simp [he], by simp [he]⟩, rfl, rfl, by simp, rfl⟩) ?_
  rintro m ⟨env, mk, Hh⟩ hst
  rw [hI] at hst
  obtain ⟨i, u, rfl, hi, ⟨k0, k1, k2, k8, k9, hl⟩, hm, hh, hub, hhx⟩ := hst
  simp only at k0 k1 k2 k8 k9 hl hm hh
  obtain rfl := hm
  obtain rfl := hh
  simp only [zZY.b17]
  by_cases c : i < k
  case neg =>
   have hik : i = k := by omega
   have hr : hexv k (s.drop a) 0 = some u := by rw [hhx, hik, Nat.sub_self]; rfl
   simp [zZY.r3, zZY.r18, k0, k1, k2, k8, k9, hl, c, hr]
  have wai := wrap64 (n := (a : Int) + i) (by omega) (by omega)
  obtain ⟨q, hq⟩ : ∃ q, k - i = q + 1 := ⟨k - i - 1, by omega⟩
  have hq2 : k - (i + 1) = q := by omega
  by_cases cl : a + i < s.length
  case neg =>
   have cl' : (s.length : Int) ≤ (a : Int) + i := by omega
   have hr : hexv k (s.drop a) 0 = none := by rw [hhx, hq, List.drop_eq_nil_of_le (by omega)]; rfl
   simp [zZY.r3, zZY.r4, zZY.r5, k0, k1, k2, k8, k9, hl, c, vZm, wai, cl', hr]
  have cl' : ¬ (s.length : Int) ≤ (a : Int) + i := by omega
  obtain ⟨b, hb⟩ : ∃ b, s[a + i]? = some b := ⟨_, List.getElem?_eq_getElem cl⟩
  have hdr : s.drop (a + i) = b :: s.drop (a + i + 1) := by rw [List.drop_eq_getElem_cons cl]; congr 1; exact (List.getElem?_eq_some_iff.1 hb).2
  rw [hq, hdr] at hhx
  have ix := idx_T (h := []) (k := .i64) (n := (a : Int) + i) (by omega) (show s[((a : Int) + i).toNat]? = some b by rw [show ((a : Int) + i).toNat = a + i by omega]; exact hb)
  simp [zZY.r3, zZY.r4, zZY.r6, zZY.r7, k0, k1, k2, k8, k9, hl, c, vZm, wai, cl']
  obtain ⟨J, hJ⟩ : ∃ J : Nat → St → Prop, J = fun m st => ∃ (j : Nat), m = 16 - j ∧ j ≤ 16 ∧ (eget st.env 0 = T s ∧ eget st.env 1 = .int .i64 a ∧ eget st.env 2 = .int .i64 k ∧ eget st.env 8 = .int .u16 u ∧ eget st.env 9 = .int .i64 i ∧ eget st.env 10 = .int .i64 (dI b j : Nat) ∧ eget st.env 11 = .int .i64 j ∧ st.env.length = 44) ∧ st.marks = [] ∧ st.heap = [] := ⟨_, rfl⟩
  refine kLoop J 16 (by
   rw [hJ]
   have h0 : dI b 0 = 99 := by unfold dI; cases hd b <;> simp
   exact ⟨0, rfl, by omega, ⟨by simp [k0], by simp [k1], by simp [k2], by simp [k8], by simp [k9], by simp [hl, h0], by simp [hl], by simp [hl]⟩, rfl, rfl⟩) ?_
  rintro m ⟨env, mk, Hh⟩ hst
  rw [hJ] at hst
  obtain ⟨j, rfl, hj, ⟨k0, k1, k2, k8, k9, k10, k11, hl⟩, hm, hh⟩ := hst
  simp only at k0 k1 k2 k8 k9 k10 k11 hl hm hh
  obtain rfl := hm
  obtain rfl := hh
  by_cases cj : j < 16
  ·have cj' : (j : Int) < 16 := by omega
   have ixh : evIdxS [] (.str ⟨#[48, 49, 50, 51, 52, 53, 54, 55, 56, 57, 97, 98, 99, 100, 101, 102]⟩) (.int .i64 (j : Int)) = some (.int .u8 (hx j).toNat, []) := idx_T (h := []) (l := hexT) (k := .i64) (n := (j : Int)) (by omega) (by rw [Int.toNat_natCast]; exact hexT_get cj)
   have wj := wrap64 (n := (j : Int) + 1) (by omega) (by omega)
   have hnx := dI_next b (k := j)
   simp only [zZY.b12]
   simp [zZY.r8, k11, hl, cj, cj']
   refine kDraw1 zZY.r9.ord ?_
   by_cases ceq : hd b = some j
   ·have q := eqB (hx j) b true (by rw [hx_hdB b cj]; simp [ceq])
    obtain ⟨z, hz⟩ : ∃ z, z = (hx j).toNat := ⟨_, rfl⟩
    rw [← hz] at ixh q
    simp [zZY.r9, zZY.r10, zZY.r11, k0, k1, k9, k11, hl, wai, ix, ixh, q, wj]
    refine ⟨16 - (j + 1), by omega, ?_⟩
    rw [hJ]
    rw [if_pos ceq] at hnx
    exact ⟨j + 1, rfl, by omega, ⟨by simp [k0], by simp [k1], by simp [k2], by simp [k8], by simp [k9], by rw [hnx]; simp [hl], by simp [hl], by simp [hl]⟩, rfl, rfl⟩
   ·have q := eqB (hx j) b false (by rw [hx_hdB b cj]; simp [ceq])
    obtain ⟨z, hz⟩ : ∃ z, z = (hx j).toNat := ⟨_, rfl⟩
    rw [← hz] at ixh q
    simp [zZY.r9, zZY.r10, zZY.r11, k0, k1, k9, k11, hl, wai, ix, ixh, q, wj]
    refine ⟨16 - (j + 1), by omega, ?_⟩
    rw [hJ]
    rw [if_neg ceq] at hnx
    exact ⟨j + 1, rfl, by omega, ⟨by simp [k0], by simp [k1], by simp [k2], by simp [k8], by simp [k9], by rw [hnx]; simp [k10], by simp [hl], by simp [hl]⟩, rfl, rfl⟩
  ·have hj16 : j = 16 := by omega
   have cj' : ¬ (j : Int) < 16 := by omega
   rw [hj16, dI_end] at k10
   simp only [zZY.b12]
   cases hdv : hd b with
   | none =>
    rw [hdv] at k10
    have hr : hexv k (s.drop a) 0 = none := by rw [hhx]; simp only [hexv, hdv]
    have q99 : (((99 : Nat) : Int) == 99) = true := rfl
    simp [zZY.r8, zZY.r13, zZY.r14, k0, k1, k9, k10, k11, hl, cj, cj', q99, hr]
   | some x =>
    rw [hdv] at k10
    simp only at k10
    have hx16 := hd_lt hdv
    have q99 : ((x : Int) == 99) = false := by simp; omega
    have hpow : 16 ^ i ≤ 16 ^ 3 := Nat.pow_le_pow_right (by omega) (by omega)
    have e163 : 16 ^ 3 = 4096 := by decide
    have hu4 : u < 4096 := by omega
    have w16x : IntKind.u16.wrap (x : Int) = (x : Int) := by
     simp only [IntKind.wrap, IntKind.bits, IntKind.signed, Bool.false_and, Bool.false_eq_true, if_false]; omega
    have hs1 := shl_u16 hu4
    have hs2 := or_u16 hu4 hx16
    obtain ⟨u', hu'⟩ : ∃ u', u' = 16 * u := ⟨_, rfl⟩
    obtain ⟨u2, hu2⟩ : ∃ u2, u2 = 16 * u + x := ⟨_, rfl⟩
    rw [← hu'] at hs1 hs2
    rw [show u' + x = u2 by omega] at hs2
    have wi := wrap64 (n := (i : Int) + 1) (by omega) (by omega)
    simp [zZY.r8, zZY.r13, zZY.r15, zZY.r16, k0, k1, k8, k9, k10, k11, hl, cj, cj', q99, hs1, evConv, w16x, hs2, wi]
    refine ⟨k - (i + 1), by omega, ?_⟩
    rw [hI]
    refine ⟨i + 1, u2, rfl, by omega, ⟨by simp [k0], by simp [k1], by simp [k2], by simp [hl], by simp [hl], by simp [hl]⟩, rfl, rfl, by rw [Nat.pow_succ]; omega, ?_⟩
    rw [hhx, hq2, hu2]
    simp only [hexv, hdv]
    rfl
 obtain ⟨h', hb⟩ := this
 exact qZ7 (h := H) zZY.Φ rfl (args := [T s, .int .i64 a, .int .i64 k]) rfl hb rfl
open Go Go.Ev
theorem zYah {f : FuncId} {cf : Cf} (hf : Φ f = some cf) (hp : cf.pure = true) {args : List V} {h : Heap} {Q : V → Prop} (ha : args.all flatN2 = true)
  (hb : ∃ r h2, evBodyW (callW Φ) cf (args.map nz2) [] = some (r, h2) ∧ ∃ r2 h3, fz fzDepth h2 r = some (r2, h3) ∧ Q r2) : ∃ r, callW Φ (.fn (.func f) [] []) args h = some (r, h) ∧ Q r := by
 obtain ⟨r, h2, hb, r2, h3, hz, hq⟩ := hb
 exact ⟨r2, xZ5 hf hp ha ⟨r, h2, hb, h3, hz⟩, hq⟩
theorem hexv_long {k : Nat} {r : Bs} {u x : Nat} (h : hexv k r u = some x) : k ≤ r.length := by
 refine Nat.le_of_not_lt fun hl => ?_
 rw [xZX k r u hl] at h
 cases h
theorem bare_iff (b : UInt8) : bare b.toNat = (decide (32 ≤ b.toNat) && decide (b.toNat ≤ 126) && (b != 34) && (b != 92)) := by
 have h : ∀ n : Fin 256, bare (UInt8.ofNat n.val).toNat = (decide (32 ≤ (UInt8.ofNat n.val).toNat) && decide ((UInt8.ofNat n.val).toNat ≤ 126) && ((UInt8.ofNat n.val) != 34) && ((UInt8.ofNat n.val) != 92)) := by decide +kernel
 have := h ⟨b.toNat, b.toNat_lt⟩
 simpa using this
def uR (B : Nat) (s : Bs) (o : Option (List Nat × Bs)) (r : V) : Prop := match o with
 | some (l, rest) => r = .tup [.arr (l.map cU), .int .i64 (s.length - rest.length : Nat), .bool true]
 | none => ∃ (l : List Nat) (e : Nat), r = .tup [.arr (l.map cU), .int .i64 e, .bool false] ∧ (∀ u ∈ l, u < B) ∧ l.length ≤ s.length
theorem zYae (k : Nat) (y : UInt8) (B : Nat) (hB : 256 ≤ B) (hkB : 16 ^ k ≤ B) (hB2 : B ≤ 65536) (hk : k ≤ 4) (hk1 : 1 ≤ k) (hy : ¬ (y = 34 ∨ y = 92)) (s : Bs) (a : Nat) (hz : s.length < 2 ^ 40) (hal : a ≤ s.length) (H : Heap) : ∃ r, callW Φ zZD [T s, .int .i64 a, .int .u8 y.toNat, .int .i64 k] H = some (r, H) ∧ (uR B s (unquote k y (s.drop a))) r := by
 refine zYah zZD.Φ rfl (args := [T s, .int .i64 a, .int .u8 y.toNat, .int .i64 k]) rfl ?_
 obtain ⟨P, hP⟩ : ∃ P : V → Heap → Prop, P = fun r h2 => ∃ r2 h3, fz fzDepth h2 r = some (r2, h3) ∧ (uR B s (unquote k y (s.drop a))) r2 := ⟨_, rfl⟩
 suffices hgo : ∃ r h', evBodyW (callW Φ) zZD.c [T s, .int .i64 a, .int .u8 y.toNat, .int .i64 k] [] = some (r, h') ∧ P r h' by rw [hP] at hgo; exact hgo
 have hPz : ∀ r r2 h2 h3, fz fzDepth h2 r = some (r2, h3) → (uR B s (unquote k y (s.drop a))) r2 → P r h2 := fun r r2 h2 h3 hz hq => by rw [hP]; exact ⟨r2, h3, hz, hq⟩
 clear hP
 refine xZ4 (Nat.le_of_ble_eq_true rfl) (fun env he h0 => ?_)
 have g0 := h0 0 (by simp)
 change eget env 0 = T s at g0
 have g1 := h0 1 (by simp)
 change eget env 1 = .int .i64 a at g1
 have g2 := h0 2 (by simp)
 change eget env 2 = .int .u8 y.toNat at g2
 have g3 := h0 3 (by simp)
 change eget env 3 = .int .i64 k at g3
 clear h0
 simp [zZD.c] at he
 have e34 : (((34 : UInt8).toNat : Nat) : Int) = 34 := rfl
 have e92 : (((92 : UInt8).toNat : Nat) : Int) = 92 := rfl
 have no : ∀ (n : Nat) h, unquote k y (s.drop a) = none → P (.tup [.nils, .int .i64 n, .bool false]) h := fun n h hn => hPz _ (.tup [.arr [], .int .i64 n, .bool false]) h h rfl (by rw [hn]; exact ⟨[], n, rfl, fun u hu => by (cases hu), by simp⟩)
 have fin : ∀ (out : List Nat) (v : V) (o : Option Nat) (h : Heap) (n : Nat) (b : Bool), VL h 1 v o (out.map cU) → uR B s (unquote k y (s.drop a)) (.tup [.arr (out.map cU), .int .i64 n, .bool b]) → P (.tup [v, .int .i64 n, .bool b]) h := by
  intro out v o h n b hv hu
  obtain ⟨h3, f, _⟩ := hv.fz (d := 61)
  refine hPz _ _ _ h3 ?_ hu
  show (mapH (Go.Ev.fz 63) h [v, .int .i64 n, .bool b]).map (fun p => (V.tup p.1, p.2)) = _
  simp only [mapH, f]
  rfl
 by_cases ca : a < s.length
 case neg =>
  have ca' : (s.length : Int) ≤ (a : Int) := by omega
  have hn := fun h => no a h (by rw [List.drop_eq_nil_of_le (by omega)]; rfl)
  simp [zZD.c, zZD.r0, zZD.r1, zZD.r2, g0, g1, he, vZm, ca', evPick, hn]
 have ca' : ¬ (s.length : Int) ≤ (a : Int) := by omega
 obtain ⟨b0, hb0⟩ : ∃ b, s[a]? = some b := ⟨_, List.getElem?_eq_getElem ca⟩
 have hdr0 : s.drop a = b0 :: s.drop (a + 1) := by rw [List.drop_eq_getElem_cons ca]; congr 1; exact (List.getElem?_eq_some_iff.1 hb0).2
 have ix0 := fun h : Heap => idx_T (h := h) (k := .i64) (n := (a : Int)) (by omega) (by simpa using hb0)
 have neB : ∀ (b : UInt8) (c : UInt8) (x : Bool), x = (b == c) → ((b.toNat : Int) != (c.toNat : Int)) = !x := fun b c x hx => by unfold bne; rw [eqB b c x hx]
 by_cases c1 : b0 = 34
 case neg =>
  have q := neB b0 34 false (by simpa using c1)
  rw [e34] at q
  have hn := fun h => no a h (by rw [hdr0]; simp [unquote, c1])
  simp [zZD.c, zZD.r0, zZD.r1, zZD.r2, g0, g1, he, vZm, ca', ix0, q, evPick, hn]
 have q := neB b0 34 true (by simpa using c1)
 rw [e34] at q
 have huq : unquote k y (s.drop a) = unq k y (s.drop (a + 1)) [] := by rw [hdr0, c1]; simp [unquote]
 have wa := wrap64 (n := (a : Int) + 1) (by omega) (by omega)
 simp [zZD.c, zZD.r0, zZD.r1, zZD.r3, zZD.r4, g0, g1, he, vZm, ca', ix0, q, evPick, wa]
 obtain ⟨I, hI⟩ : ∃ I : Nat → St → Prop, I = fun m st => ∃ (i : Nat) (v : V) (o : Option Nat) (out : List Nat), m = s.length - i ∧ i ≤ s.length ∧ (eget st.env 0 = T s ∧ eget st.env 1 = .int .i64 i ∧ eget st.env 2 = .int .u8 y.toNat ∧ eget st.env 3 = .int .i64 k ∧ eget st.env 11 = v ∧ st.env.length = 132) ∧ st.marks = [] ∧ VL st.heap 1 v o (out.map cU) ∧ out.length ≤ i ∧ (∀ u ∈ out, u < B) ∧ unquote k y (s.drop a) = unq k y (s.drop i) out := ⟨_, rfl⟩
 refine kLoop I (s.length - (a + 1)) (by rw [hI]; exact ⟨a + 1, .nils, none, [], rfl, by omega, ⟨by simp [g0], by simp [he], by simp [g2], by simp [g3], by simp [he], by simp [he]⟩, rfl, VL.nil _ _, by simp, fun u hu => by (cases hu), huq⟩) ?_
 rintro m ⟨env, mk, Hh⟩ hst
 rw [hI] at hst
 obtain ⟨i, v, o, out, rfl, hi, ⟨k0, k1, k2, k3, k11, hl⟩, hm, hv, hol, hob, hu⟩ := hst
 simp only at k0 k1 k2 k3 k11 hl hm hv
 obtain rfl := hm
 have wr := wrap64 (n := (i : Int) + 1) (by omega) (by omega)
 simp only [zZD.b19]
 by_cases c : i < s.length
 case neg =>
  have cI : ¬ (i : Int) < s.length := by omega
  have hf := fin out v o Hh (i + 1) false hv (by rw [hu, List.drop_eq_nil_of_le (by omega), unq_end]; exact ⟨out, i + 1, rfl, hob, by omega⟩)
  have ei : (((i + 1 : Nat)) : Int) = (i : Int) + 1 := by omega
  rw [ei] at hf
  simp [zZD.r5, zZD.r20, k0, k1, k11, hl, vZm, c, cI, evPick, wr, hf]
 have cI : (i : Int) < s.length := by omega
 obtain ⟨b, hb⟩ : ∃ b, s[i]? = some b := ⟨_, List.getElem?_eq_getElem c⟩
 have hdr : s.drop i = b :: s.drop (i + 1) := by rw [List.drop_eq_getElem_cons c]; congr 1; exact (List.getElem?_eq_some_iff.1 hb).2
 have ix := fun h : Heap => idx_T (h := h) (k := .i64) (n := (i : Int)) (by omega) (by simpa using hb)
 have hb' := b.toNat_lt
 have w16 : ∀ b : UInt8, IntKind.u16.wrap (b.toNat : Int) = b.toNat := fun b => by
  have := b.toNat_lt
  simp only [IntKind.wrap, IntKind.bits, IntKind.signed, Bool.false_and, Bool.false_eq_true, if_false]; omega
 have addU : ∀ u : Nat, ∃ v' o' H2, evApp (Hh ++ [.row 1 [[.int .u16 u]] 0 true]) 1 2 v (.sl Hh.length 0 0 1) = some (v', H2) ∧ VL H2 1 v' o' ((out ++ [u]).map cU) := by
  intro u
  obtain ⟨v', o', H2, ha, hv2, _⟩ := hv.add (by_ := 2) (es := [cU u]) (plainU1 u) (by simp [roomB]; omega)
  exact ⟨v', o', H2, ha, by simpa using hv2⟩
 have hbs := fun u : Nat => bs1 Hh (.int .u16 0) (.int .u16 u) ⟨rfl, rfl⟩
 have more : ∀ u, u < B → ∀ x ∈ out ++ [u], x < B := fun u hu x hx => by
  rcases List.mem_append.1 hx with hx | hx
  ·exact hob x hx
  ·rw [List.mem_singleton.1 hx]; exact hu
 rw [hdr] at hu
 by_cases c34 : b = 34
 ·have q := neB b 34 true (by simpa using c34)
  rw [e34] at q
  have hs : unquote k y (s.drop a) = some (out, s.drop (i + 1)) := by rw [hu, c34]; exact zYaN
  have hf := fin out v o Hh (i + 1) true hv (by rw [hs]; show _ = _; rw [List.length_drop, show s.length - (s.length - (i + 1)) = i + 1 by omega])
  have ei : (((i + 1 : Nat)) : Int) = (i : Int) + 1 := by omega
  rw [ei] at hf
  simp [zZD.r5, zZD.r20, k0, k1, k11, hl, vZm, c, cI, ix, q, evPick, wr, hf]
 have q34 := neB b 34 false (by simpa using c34)
 rw [e34] at q34
 by_cases c92 : b = 92
 case neg =>
  have q92 := neB b 92 false (by simpa using c92)
  rw [e92] at q92
  have hbi := bare_iff b
  by_cases c32 : b.toNat < 32
  ·have c32' : (b.toNat : Int) < 32 := by omega
   have hbr : bare b.toNat = false := by rw [hbi]; simp; omega
   have hn := no i Hh (hu.trans (unq_bad c34 hbr c92))
   simp [zZD.r5, zZD.r6, zZD.r7, zZD.r8, k0, k1, k11, hl, vZm, c, cI, ix, q34, q92, c32, c32', evPick, hn]
  have c32' : ¬ (b.toNat : Int) < 32 := by omega
  by_cases c126 : 126 < b.toNat
  ·have c126' : (126 : Int) < (b.toNat : Int) := by omega
   have hbr : bare b.toNat = false := by rw [hbi]; simp; omega
   have hn := no i Hh (hu.trans (unq_bad c34 hbr c92))
   simp [zZD.r5, zZD.r6, zZD.r7, zZD.r8, k0, k1, k11, hl, vZm, c, cI, ix, q34, q92, c32, c32', c126, c126', evPick, hn]
  have c126' : ¬ (126 : Int) < (b.toNat : Int) := by omega
  have hbr : bare b.toNat = true := by rw [hbi]; simp [c34, c92]; omega
  have hs := hu.trans (unq_bare hbr)
  obtain ⟨v', o', H2, ha, hv2⟩ := addU b.toNat
  simp [zZD.r5, zZD.r6, zZD.r7, zZD.r9, zZD.r10, k0, k1, k11, hl, vZm, c, cI, ix, q34, q92, c32, c32', c126, c126', evPick, evConv, w16, hbs, ha, wr]
  refine ⟨s.length - (i + 1), by omega, ?_⟩
  rw [hI]
  exact ⟨i + 1, v', o', out ++ [b.toNat], rfl, by omega, ⟨by simp [k0], by simp [hl], by simp [k2], by simp [k3], by simp [hl], by simp [hl]⟩, rfl, hv2, by simp; omega, more _ (by omega), hs⟩
 have q92 := neB b 92 true (by simpa using c92)
 rw [e92] at q92
 rw [c92] at hu
 have wr2 := wrap64 (n := (i : Int) + 2) (by omega) (by omega)
 have e2 : (((i + 2 : Nat)) : Int) = (i : Int) + 2 := by omega
 have hhx := zYaP s (i + 2) k hz (by omega) hk
 simp only [e2] at hhx
 by_cases ce : i + 1 < s.length
 case neg =>
  have ce' : ¬ (i : Int) + 1 < (s.length : Int) := by omega
  have hnn : hexv k (s.drop (i + 2)) 0 = none := xZX _ _ _ (by simp; omega)
  rw [hnn] at hhx
  have hh' : ∀ h, callW Φ zZY [T s, .int .i64 ((i : Int) + 2), .int .i64 k] h = some (.tup [.int .u16 0, .bool false], h) := hhx
  have hn := no i Hh (hu.trans (by rw [List.drop_eq_nil_of_le (by omega)]; exact zYaO))
  simp [zZD.r5, zZD.r6, zZD.r11, zZD.r14, zZD.r15, zZD.r16, k0, k1, k2, k3, k11, hl, vZm, c, cI, ix, q34, q92, wr, wr2, ce, ce', hh', evExt, evPick, hn]
 have ce' : (i : Int) + 1 < (s.length : Int) := by omega
 obtain ⟨e, he1⟩ : ∃ e, s[i + 1]? = some e := ⟨_, List.getElem?_eq_getElem ce⟩
 have hdr2 : s.drop (i + 1) = e :: s.drop (i + 2) := by rw [List.drop_eq_getElem_cons ce]; congr 1; exact (List.getElem?_eq_some_iff.1 he1).2
 rw [hdr2] at hu
 have ixe := fun h : Heap => idx_T (h := h) (k := .i64) (n := (i : Int) + 1) (by omega) (show s[((i : Int) + 1).toNat]? = some e by rw [show ((i : Int) + 1).toNat = i + 1 by omega]; exact he1)
 have he' := e.toNat_lt
 by_cases cq : e = 34 ∨ e = 92
 ·have hs := hu.trans (unq_esc cq)
  obtain ⟨v', o', H2, ha, hv2⟩ := addU e.toNat
  by_cases cq34 : e = 34
  ·have p34 := eqB e 34 true (by simpa using cq34)
   rw [e34] at p34
   simp [zZD.r5, zZD.r6, zZD.r11, zZD.r12, zZD.r13, k0, k1, k2, k3, k11, hl, vZm, c, cI, ix, q34, q92, wr, wr2, ce, ce', ixe, p34, evPick, evConv, w16, hbs, ha]
   refine ⟨s.length - (i + 2), by omega, ?_⟩
   rw [hI]
   exact ⟨i + 2, v', o', out ++ [e.toNat], rfl, by omega, ⟨by simp [k0], by simp [hl], by simp [k2], by simp [k3], by simp [hl], by simp [hl]⟩, rfl, hv2, by simp; omega, more _ (by omega), hs⟩
  ·have cq92 := cq.resolve_left cq34
   have p34 := eqB e 34 false (by simpa using cq34)
   have p92 := eqB e 92 true (by simpa using cq92)
   rw [e34] at p34
   rw [e92] at p92
   simp [zZD.r5, zZD.r6, zZD.r11, zZD.r12, zZD.r13, k0, k1, k2, k3, k11, hl, vZm, c, cI, ix, q34, q92, wr, wr2, ce, ce', ixe, p34, p92, evPick, evConv, w16, hbs, ha]
   refine ⟨s.length - (i + 2), by omega, ?_⟩
   rw [hI]
   exact ⟨i + 2, v', o', out ++ [e.toNat], rfl, by omega, ⟨by simp [k0], by simp [hl], by simp [k2], by simp [k3], by simp [hl], by simp [hl]⟩, rfl, hv2, by simp; omega, more _ (by omega), hs⟩
 have p34 := eqB e 34 false (by simp; exact fun h => cq (.inl h))
 have p92 := eqB e 92 false (by simp; exact fun h => cq (.inr h))
 rw [e34] at p34
 rw [e92] at p92
 cases hxv : hexv k (s.drop (i + 2)) 0 with
 | none =>
  rw [hxv] at hhx
  have hh' : ∀ h, callW Φ zZY [T s, .int .i64 ((i : Int) + 2), .int .i64 k] h = some (.tup [.int .u16 0, .bool false], h) := hhx
  have hn := no i Hh (hu.trans (by
   by_cases cy : e = y
   ·rw [cy]; exact zYaD hy hxv
   ·exact unq_not cq cy))
  simp [zZD.r5, zZD.r6, zZD.r11, zZD.r14, zZD.r15, zZD.r16, k0, k1, k2, k3, k11, hl, vZm, c, cI, ix, q34, q92, wr, wr2, ce, ce', ixe, p34, p92, hh', evExt, evPick, hn]
 | some u =>
  rw [hxv] at hhx
  have hh' : ∀ h, callW Φ zZY [T s, .int .i64 ((i : Int) + 2), .int .i64 k] h = some (.tup [.int .u16 u, .bool true], h) := hhx
  by_cases cy : e = y
  case neg =>
   have py := neB e y false (by simpa using cy)
   have hn := no i Hh (hu.trans (unq_not cq cy))
   simp [zZD.r5, zZD.r6, zZD.r11, zZD.r14, zZD.r15, zZD.r16, k0, k1, k2, k3, k11, hl, vZm, c, cI, ix, q34, q92, wr, wr2, ce, ce', ixe, p34, p92, hh', py, evExt, evPick, hn]
  have py := neB e y true (by simpa using cy)
  rw [cy] at hu
  have hs := hu.trans (unq_hexs hy hxv)
  have huB : u < B := by have := hexv_lt k _ 0 u hxv; omega
  have hlong := hexv_long hxv
  rw [List.length_drop] at hlong
  have s1 : ∀ x, x = decide (32 ≤ u) → decide ((32 : Int) ≤ (u : Int)) = x := fun x hx => by subst hx; simp; omega
  by_cases d1 : 32 ≤ u
  ·have d1' : (32 : Int) ≤ (u : Int) := by omega
   by_cases d2 : u ≤ 126
   ·have d2' : (u : Int) ≤ 126 := by omega
    have hsh : shown u = true := by simp [shown, d1, d2]
    rw [hsh] at hs
    have hn := no i Hh hs
    simp [zZD.r5, zZD.r6, zZD.r11, zZD.r14, zZD.r15, zZD.r16, k0, k1, k2, k3, k11, hl, vZm, c, cI, ix, q34, q92, wr, wr2, ce, ce', ixe, p34, p92, hh', py, d1, d1', d2, d2', evExt, evPick, hn]
   ·have d2' : ¬ (u : Int) ≤ 126 := by omega
    have hsh : shown u = false := by simp only [shown, Bool.and_eq_false_iff, decide_eq_false_iff_not]; omega
    rw [hsh] at hs
    simp only [Bool.false_eq_true, if_false, List.drop_drop] at hs
    obtain ⟨v', o', H2, ha, hv2⟩ := addU u
    have wr3 := wrap64 (n := (i : Int) + 2 + k) (by omega) (by omega)
    simp [zZD.r5, zZD.r6, zZD.r11, zZD.r14, zZD.r15, zZD.r17, zZD.r18, k0, k1, k2, k3, k11, hl, vZm, c, cI, ix, q34, q92, wr, wr2, ce, ce', ixe, p34, p92, hh', py, d1, d1', d2, d2', evExt, evPick, hbs, ha, wr3]
    refine ⟨s.length - (i + 2 + k), by omega, ?_⟩
    rw [hI]
    exact ⟨i + 2 + k, v', o', out ++ [u], rfl, by omega, ⟨by simp [k0], by simp [hl], by simp [k2], by simp [k3], by simp [hl], by simp [hl]⟩, rfl, hv2, by simp; omega, more _ huB, hs⟩
  ·have d1' : ¬ (32 : Int) ≤ (u : Int) := by omega
   have hsh : shown u = false := by simp only [shown, Bool.and_eq_false_iff, decide_eq_false_iff_not]; omega
   rw [hsh] at hs
   simp only [Bool.false_eq_true, if_false, List.drop_drop] at hs
   obtain ⟨v', o', H2, ha, hv2⟩ := addU u
   have wr3 := wrap64 (n := (i : Int) + 2 + k) (by omega) (by omega)
   simp [zZD.r5, zZD.r6, zZD.r11, zZD.r14, zZD.r15, zZD.r17, zZD.r18, k0, k1, k2, k3, k11, hl, vZm, c, cI, ix, q34, q92, wr, wr2, ce, ce', ixe, p34, p92, hh', py, d1, d1', evExt, evPick, hbs, ha, wr3]
   refine ⟨s.length - (i + 2 + k), by omega, ?_⟩
   rw [hI]
   exact ⟨i + 2 + k, v', o', out ++ [u], rfl, by omega, ⟨by simp [k0], by simp [hl], by simp [k2], by simp [k3], by simp [hl], by simp [hl]⟩, rfl, hv2, by simp; omega, more _ huB, hs⟩
open Go Go.Ev
theorem suf_drop {s w r : Bs} {p : Nat} (h : s.drop p = w ++ r) (hp : p ≤ s.length) : s.drop (s.length - r.length) = r ∧ r.length ≤ s.length ∧ p + w.length + r.length = s.length := by
 have hl := congrArg List.length h
 rw [List.length_drop, List.length_append] at hl
 have e : s.length - r.length = p + w.length := by omega
 refine ⟨?_, by omega, by omega⟩
 rw [e, ← List.drop_drop, h, List.drop_left]
def tR (s : Bs) (o : Option (Bs × Bs)) (r : V) : Prop := match o with
 | some (t, rest) => r = .tup [T t, .int .i64 (s.length - rest.length : Nat), .bool true]
 | none => ∃ (t : Bs) (e : Nat), r = .tup [T t, .int .i64 e, .bool false]
theorem narrow_take (l : List Nat) {i u : Nat} (h : l[i]? = some u) : narrow (l.take (i + 1)) = narrow (l.take i) ++ [UInt8.ofNat u] := by
 unfold narrow
 rw [List.take_add_one, h]
 simp
theorem zYaa (s : Bs) (a : Nat) (hz : s.length < 2 ^ 40) (hal : a ≤ s.length) (H : Heap) : ∃ r, callW Φ qZp [T s, .int .i64 a] H = some (r, H) ∧ (tR s (textR (s.drop a))) r := by
 refine zYah qZp.Φ rfl (args := [T s, .int .i64 a]) rfl ?_
 obtain ⟨P, hP⟩ : ∃ P : V → Heap → Prop, P = fun r h2 => ∃ r2 h3, fz fzDepth h2 r = some (r2, h3) ∧ (tR s (textR (s.drop a))) r2 := ⟨_, rfl⟩
 suffices hgo : ∃ r h', evBodyW (callW Φ) qZp.c [T s, .int .i64 a] [] = some (r, h') ∧ P r h' by rw [hP] at hgo; exact hgo
 have hPz : ∀ r r2 h2 h3, fz fzDepth h2 r = some (r2, h3) → (tR s (textR (s.drop a))) r2 → P r h2 := fun r r2 h2 h3 hz hq => by rw [hP]; exact ⟨r2, h3, hz, hq⟩
 clear hP
 refine xZ4 (Nat.le_of_ble_eq_true rfl) (fun env he h0 => ?_)
 have g0 := h0 0 (by simp)
 change eget env 0 = T s at g0
 have g1 := h0 1 (by simp)
 change eget env 1 = .int .i64 a at g1
 clear h0
 simp [qZp.c] at he
 obtain ⟨ru, hcu, hru⟩ := zYae 2 120 256 (by omega) (by decide) (by omega) (by omega) (by omega) (by decide) s a hz hal []
 have e2 : (((2 : Nat)) : Int) = 2 := rfl
 simp only [q120, e2] at hcu
 obtain ⟨l, e, ok, rfl, hlB, hlL, hend⟩ : ∃ (l : List Nat) (e : Nat) (ok : Bool), ru = .tup [.arr (l.map cU), .int .i64 e, .bool ok] ∧ (∀ u ∈ l, u < 256) ∧ l.length ≤ s.length ∧ tR s (textR (s.drop a)) (.tup [T (narrow l), .int .i64 e, .bool ok]) := by
  unfold textR
  cases hq : unquote 2 120 (s.drop a) with
  | none =>
   rw [hq] at hru
   obtain ⟨l, e, h1, h2, h3⟩ := hru
   exact ⟨l, e, false, h1, h2, h3, narrow l, e, rfl⟩
  | some p =>
   obtain ⟨l, rest⟩ := p
   rw [hq] at hru
   obtain ⟨h2, h3⟩ := xZS (k := 2) (y := 120) (B := 256) (by omega) (by decide) hq
   rw [List.length_drop] at h3
   exact ⟨l, s.length - rest.length, true, hru, h2, by omega, rfl⟩
 simp [qZp.c, qZp.r0, qZp.r1, qZp.r2, qZp.r3, g0, g1, he, hcu, evExt]
 obtain ⟨I, hI⟩ : ∃ I : Nat → St → Prop, I = fun m st => ∃ (i : Nat) (v : V) (o : Option Nat), m = l.length - i ∧ i ≤ l.length ∧ (eget st.env 7 = .arr (l.map cU) ∧ eget st.env 8 = .int .i64 e ∧ eget st.env 9 = .bool ok ∧ eget st.env 10 = v ∧ eget st.env 11 = .int .i64 i ∧ st.env.length = 37) ∧ st.marks = [] ∧ VL st.heap 1 v o ((narrow (l.take i)).map cB) := ⟨_, rfl⟩
 refine kLoop I l.length (by rw [hI]; exact ⟨0, .nils, none, rfl, by omega, ⟨by simp [he], by simp [he], by simp [he], by simp [he], by simp [he], by simp [he]⟩, rfl, VL.nil _ _⟩) ?_
 rintro m ⟨env, mk, Hh⟩ hst
 rw [hI] at hst
 obtain ⟨i, v, o, rfl, hi, ⟨k7, k8, k9, k10, k11, hl⟩, hm, hv⟩ := hst
 simp only at k7 k8 k9 k10 k11 hl hm hv
 obtain rfl := hm
 simp only [qZp.b7]
 by_cases c : i < l.length
 ·obtain ⟨u, hu⟩ : ∃ u, l[i]? = some u := ⟨_, List.getElem?_eq_getElem c⟩
  have hu8 := hlB u (List.mem_of_getElem? hu)
  have ia := zYal (h := Hh) (k := .i64) hu
  have wr := wrap64 (n := (i : Int) + 1) (by omega) (by omega)
  have hbs := bs1 Hh (.int .u8 0) (.int .u8 u) ⟨rfl, rfl⟩
  have hnl : (narrow (l.take i)).length ≤ s.length := by unfold narrow; rw [List.length_map, List.length_take]; omega
  obtain ⟨v', o', H2, ha, hv2, _⟩ := hv.add (by_ := 1) (es := [cB (UInt8.ofNat u)]) (plainB [UInt8.ofNat u]) (by simp [roomB]; omega)
  simp only [cB, toNat_ofNat hu8, List.length_cons, List.length_nil] at ha
  simp [qZp.r4, qZp.r5, qZp.r6, k7, k10, k11, hl, vZi, c, ia, cU, evConv, w8 hu8, hbs, ha, wr]
  refine ⟨l.length - (i + 1), by omega, ?_⟩
  rw [hI]
  refine ⟨i + 1, v', o', rfl, by omega, ⟨by simp [k7, cU], by simp [k8], by simp [k9], by simp [hl], by simp [hl], by simp [hl]⟩, rfl, ?_⟩
  rw [narrow_take l hu]
  simpa using hv2
 ·have hie : i = l.length := by omega
  rw [hie, List.take_length] at hv
  have hc := xZq hv
  have hf := hPz (.tup [T (narrow l), .int .i64 e, .bool ok]) _ Hh Hh (wZl rfl) hend
  simp [qZp.r4, qZp.r8, k7, k8, k9, k10, k11, hl, vZi, c, hc, hf]
/-! ### Lists -/
def contR {α : Type} (one : Bs → Option (α × Bs)) (r : Bs) (out : List α) : Option (List α × Bs) := match r with
 | [] => none
 | e :: r2 => if e = 93 then some (out, r2) else if e = 32 then itemsL one r2 out else none
theorem zYaF {α : Type} {one : Bs → Option (α × Bs)} (hsuf : ∀ s x r, one s = some (x, r) → r.length ≤ s.length) {s : Bs} {out : List α} {x : α} {r : Bs} (h : one s = some (x, r)) : itemsL one s out = contR one r (out ++ [x]) := by
 rw [itemsL, h]
 cases r with
 | nil => rfl
 | cons e r2 =>
  have := hsuf s x _ h
  simp only [List.length_cons] at this
  simp only [contR]
  rw [if_pos (show r2.length < s.length by omega)]
theorem zYad {α : Type} {one : Bs → Option (α × Bs)} {s : Bs} {out : List α} (h : one s = none) : itemsL one s out = none := by rw [itemsL, h]
def firstR {α : Type} (one : Bs → Option (α × Bs)) (r : Bs) : Option (List α × Bs) := match r with
 | [] => itemsL one [] []
 | e :: r2 => if e = 93 then some ([], r2) else itemsL one (e :: r2) []
end Go.Proofs.Sc
