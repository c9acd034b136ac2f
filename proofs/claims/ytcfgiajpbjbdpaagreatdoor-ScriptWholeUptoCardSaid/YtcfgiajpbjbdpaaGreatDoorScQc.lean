/- Quoted texts read. Quoted texts read: the walk. No conditions. -/
import Derived.Test.YtcfgiajpbjbdpaaGreatDoorScQa
set_option maxHeartbeats 16000000
set_option maxRecDepth 100000
set_option linter.unusedVariables false
set_option linter.unusedSimpArgs false
set_option linter.unusedSectionVars false
namespace Go.Proofs.Sc
open Go Go.Ev
section
variable {k : Nat} {y b e : UInt8} {r : Bs} {out : List Nat} {u : Nat}
theorem unq_end : unq k y [] out = none := by rw [unq.eq_def]
theorem zYaN : unq k y (34 :: r) out = some (out, r) := by rw [unq.eq_def]; simp
theorem bare_34 : bare 34 = false := by decide
theorem bare_92 : bare 92 = false := by decide
theorem unq_bare (h : bare b.toNat = true) : unq k y (b :: r) out = unq k y r (out ++ [b.toNat]) := by
 have h1 : b ≠ 34 := fun e => by subst e; exact absurd h (by decide)
 rw [unq.eq_def]; simp only; rw [if_neg h1, if_pos h]
theorem unq_bad (h1 : b ≠ 34) (h2 : bare b.toNat = false) (h3 : b ≠ 92) : unq k y (b :: r) out = none := by
 rw [unq.eq_def]; simp only; rw [if_neg h1, if_neg (by simp [h2]), if_pos h3]
theorem zYaO : unq k y [92] out = none := by
 rw [unq.eq_def]; simp only; rw [if_neg (by decide), if_neg (by decide), if_neg (by decide)]
theorem unq_esc (h : e = 34 ∨ e = 92) : unq k y (92 :: e :: r) out = unq k y r (out ++ [e.toNat]) := by
 rw [unq.eq_def]; simp only; rw [if_neg (by decide), if_neg (by decide), if_neg (by decide)]
 simp only [if_pos h]
theorem unq_not (h : ¬ (e = 34 ∨ e = 92)) (h2 : e ≠ y) : unq k y (92 :: e :: r) out = none := by
 rw [unq.eq_def]; simp only; rw [if_neg (by decide), if_neg (by decide), if_neg (by decide)]
 simp only [if_neg h, if_pos h2]
theorem zYaD (h : ¬ (y = 34 ∨ y = 92)) (h2 : hexv k r 0 = none) : unq k y (92 :: y :: r) out = none := by
 rw [unq.eq_def]; simp only; rw [if_neg (by decide), if_neg (by decide), if_neg (by decide)]
 simp only [if_neg h, ne_eq, not_true_eq_false, if_false, h2]
theorem unq_hexs (h : ¬ (y = 34 ∨ y = 92)) (h2 : hexv k r 0 = some u) : unq k y (92 :: y :: r) out = if shown u then none else unq k y (r.drop k) (out ++ [u]) := by
 rw [unq.eq_def]; simp only; rw [if_neg (by decide), if_neg (by decide), if_neg (by decide)]
 simp only [if_neg h, ne_eq, not_true_eq_false, if_false, h2]
end
theorem xZX : ∀ (k : Nat) (r : Bs) (u : Nat), r.length < k → hexv k r u = none
 | 0, r, u, h => by omega
 | k + 1, [], u, h => rfl
 | k + 1, b :: r, u, h => by
  simp only [hexv]
  cases hd b with
  | none => rfl
  | some d => exact xZX k r _ (by simpa using h)
def hdI (b : UInt8) : Int := match hd b with
 | some d => (d : Int)
 | none => -1
theorem hd_index (b : UInt8) : (if b ∈ hexT then ((hexT.takeWhile (· != b)).length : Int) else -1) = hdI b := by
 have h : ∀ n : Fin 256, (if UInt8.ofNat n.val ∈ hexT then ((hexT.takeWhile (· != UInt8.ofNat n.val)).length : Int) else -1) = hdI (UInt8.ofNat n.val) := by decide +kernel
 have := h ⟨b.toNat, b.toNat_lt⟩
 simpa using this
theorem hd_lt {b : UInt8} {d : Nat} (h : hd b = some d) : d < 16 := by
 unfold hd at h
 split at h
 ·injection h with h; omega
 ·split at h
  ·injection h with h; omega
  ·cases h
theorem hex_call (b : UInt8) (H : Heap) : callW Φ qZi [.str ⟨#[48, 49, 50, 51, 52, 53, 54, 55, 56, 57, 97, 98, 99, 100, 101, 102]⟩, .int .u8 b.toNat] H = some (.int .i64 (hdI b), H) := by
 have := xZD hexT b H
 rw [hd_index] at this
 exact this
theorem shl_u16 {u : Nat} (h : u < 4096) : binV .shl (.int .u16 u) (.int .u64 4) = some (.int .u16 (16 * u : Nat)) := by
 have hb : IntKind.u16.bits = 16 := rfl
 have h0 : ¬ (4 : Int) < 0 := by omega
 simp only [binV, h0, if_false, hb]
 have e : (4 : Int).toNat = 4 := rfl
 have e2 : min 4 16 = 4 := rfl
 rw [e, e2]
 have e3 : (u : Int) * 2 ^ 4 = ((16 * u : Nat) : Int) := by omega
 rw [e3]
 congr 2
 simp only [IntKind.wrap, IntKind.bits, IntKind.signed, Bool.false_and, Bool.false_eq_true, if_false]
 omega
theorem or_u16 {u d : Nat} (h : u < 4096) (hd : d < 16) : binV .or (.int .u16 (16 * u : Nat)) (.int .u16 d) = some (.int .u16 (16 * u + d : Nat)) := by
 have e1 : ∀ x : Nat, (BitVec.ofInt 16 (x : Int)) = BitVec.ofNat 16 x := fun x => by simp
 have e3 : (BitVec.ofNat 16 (16 * u) ||| BitVec.ofNat 16 d).toNat = 16 * u + d := by
  rw [BitVec.toNat_or]
  simp only [BitVec.toNat_ofNat]
  rw [Nat.mod_eq_of_lt (by omega), Nat.mod_eq_of_lt (by omega)]
  have := Nat.two_pow_add_eq_or_of_lt (i := 4) (b := d) (by omega) u
  have e : 2 ^ 4 * u = 16 * u := by omega
  rw [e] at this
  exact this.symm
 show some (V.int .u16 (IntKind.u16.wrap ((BitVec.ofInt 16 ((16 * u : Nat) : Int) ||| BitVec.ofInt 16 (d : Int)).toNat : Nat))) = _
 rw [e1, e1, e3]
 congr 2
 simp only [IntKind.wrap, IntKind.bits, IntKind.signed, Bool.false_and, Bool.false_eq_true, if_false]
 omega
theorem eqB (b c : UInt8) (x : Bool) (h : x = (b == c)) : ((b.toNat : Int) == (c.toNat : Int)) = x := by
 subst h
 by_cases h : b = c
 ·subst h; simp
 ·have : ¬ b.toNat = c.toNat := fun e => h (UInt8.toNat_inj.1 e)
  have h2 : (b == c) = false := by simpa using h
  rw [h2]
  simp
  omega
def u1 (o : Option (List Nat × Bs)) : List Nat := (o.map (·.1)).getD []
open Go Go.Ev
theorem plainU1 (u : Nat) : plainR 1 [cU u] := plainU [u]
theorem xZv (k : Nat) (y : UInt8) (hk : k ≤ 4) (hy : ¬ (y = 34 ∨ y = 92)) (s : Bs) (hz : s.length < 2 ^ 40) (H : Heap) : callW Φ zZd [T s, .int .i64 k, .int .u8 y.toNat] H = some (.tup [.arr ((u1 (unquote k y s)).map cU), T (n2 (unquote k y s)), .bool (unquote k y s).isSome], H) := by
 refine xZ5 zZd.Φ rfl (args := [T s, .int .i64 k, .int .u8 y.toNat]) rfl ?_
 obtain ⟨P, hP⟩ : ∃ P : V → Heap → Prop, P = fun r h2 => ∃ h3, fz fzDepth h2 r = some (.tup [.arr ((u1 (unquote k y s)).map cU), T (n2 (unquote k y s)), .bool (unquote k y s).isSome], h3) := ⟨_, rfl⟩
 suffices hgo : ∃ r h', evBodyW (callW Φ) zZd.c [T s, .int .i64 k, .int .u8 y.toNat] [] = some (r, h') ∧ P r h' by rw [hP] at hgo; exact hgo
 have hPz : ∀ r h2 h3, fz fzDepth h2 r = some (.tup [.arr ((u1 (unquote k y s)).map cU), T (n2 (unquote k y s)), .bool (unquote k y s).isSome], h3) → P r h2 := fun r h2 h3 hz => by rw [hP]; exact ⟨h3, hz⟩
 have hPn : ∀ r h2, flatN2 r = true → nz2 r = .tup [.arr ((u1 (unquote k y s)).map cU), T (n2 (unquote k y s)), .bool (unquote k y s).isSome] → P r h2 := fun r h2 h h1 => hPz r h2 h2 (by rw [← h1]; exact wZl h)
 clear hP
 refine xZ4 (Nat.le_of_ble_eq_true rfl) (fun env he h0 => ?_)
 have g0 := h0 0 (by simp)
 change eget env 0 = T s at g0
 have g1 := h0 1 (by simp)
 change eget env 1 = .int .i64 k at g1
 have g2 := h0 2 (by simp)
 change eget env 2 = .int .u8 y.toNat at g2
 clear h0
 simp [zZd.c] at he
 have no : unquote k y s = none → ∀ h, P (.tup [.nils, .str ⟨#[]⟩, .bool false]) h := fun hn h => hPz _ _ h (by rw [hn]; rfl)
 have yes : ∀ (out : List Nat) (r : Bs) (v : V) (o : Option Nat) (h : Heap), unquote k y s = some (out, r) → VL h 1 v o (out.map cU) → P (.tup [v, T r, .bool true]) h := by
  intro out r v o h hs hv
  obtain ⟨h3, f, _⟩ := hv.fz (d := 61)
  refine hPz _ _ h3 ?_
  rw [hs]
  show (mapH (Go.Ev.fz 63) h [v, T r, .bool true]).map (fun p => (V.tup p.1, p.2)) = _
  simp only [mapH, f]
  rfl
 have e0 : ∀ l : Bs, beqS ⟨l.toArray⟩ ⟨#[]⟩ = (l == []) := fun l => T_beq l []
 by_cases c0 : s = []
 ·have hq : (s == []) = true := by simpa using c0
  have hn := no (by rw [c0]; rfl)
  simp [zZd.c, zZd.r0, zZd.r1, zZd.r2, g0, he, e0, hq, evPick, hn]
 have hq : (s == []) = false := by simpa using c0
 obtain ⟨b0, s0, hs0⟩ : ∃ b0 s0, s = b0 :: s0 := by cases s with | nil => exact absurd rfl c0 | cons b s => exact ⟨b, s, rfl⟩
 have ix0 := fun h : Heap => idx_T (h := h) (l := s) (k := .i64) (n := (0 : Int)) (b := b0) (by omega) (by rw [hs0]; rfl)
 by_cases c1 : b0 = 34
 case neg =>
  have hb := eqB b0 34 false (by simpa using c1)
  have hn := no (by rw [hs0]; simp [unquote, c1])
  have e34 : (((34 : UInt8).toNat : Nat) : Int) = 34 := rfl
  rw [e34] at hb
  have hb2 : ((b0.toNat : Int) != 34) = true := by unfold bne; rw [hb]; rfl
  simp [zZd.c, zZd.r0, zZd.r1, zZd.r2, g0, he, e0, hq, ix0, evPick, hb2, hn]
 have huq : unquote k y s = unq k y (s.drop 1) [] := by rw [hs0, c1]; simp [unquote]
 have hb := eqB b0 34 true (by simpa using c1)
 have e34 : (((34 : UInt8).toNat : Nat) : Int) = 34 := rfl
 have e92 : (((92 : UInt8).toNat : Nat) : Int) = 92 := rfl
 rw [e34] at hb
 have hb2 : ((b0.toNat : Int) != 34) = false := by unfold bne; rw [hb]; rfl
 have ls : 1 ≤ s.length := by rw [hs0]; simp
 simp [zZd.c, zZd.r0, zZd.r1, zZd.r3, zZd.r4, g0, he, e0, hq, ix0, evPick, hb2]
 obtain ⟨I, hI⟩ : ∃ I : Nat → St → Prop, I = fun m st => ∃ (i : Nat) (v : V) (o : Option Nat) (out : List Nat), m = s.length - i ∧ 1 ≤ i ∧ i ≤ s.length ∧ (eget st.env 0 = T s ∧ eget st.env 1 = .int .i64 k ∧ eget st.env 2 = .int .u8 y.toNat ∧ eget st.env 9 = v ∧ eget st.env 10 = .int .i64 i ∧ st.env.length = 115) ∧ st.marks = [] ∧ VL st.heap 1 v o (out.map cU) ∧ out.length ≤ i ∧ unquote k y s = unq k y (s.drop i) out := ⟨_, rfl⟩
 refine kLoop I (s.length - 1) (by rw [hI]; exact ⟨1, .nils, none, [], rfl, by omega, by omega, ⟨by simpa using g0, by simpa using g1, by simpa using g2, by simp [he], by simp [he], by simpa using he⟩, rfl, VL.nil _ _, by simp, huq⟩) ?_
 rintro m ⟨env, mk, Hh⟩ hst
 rw [hI] at hst
 obtain ⟨i, v, o, out, rfl, hi1, hi, ⟨k0, k1, k2, k9, k10, hl⟩, hm, hv, hol, hu⟩ := hst
 simp only at k0 k1 k2 k9 k10 hl hm hv
 obtain rfl := hm
 by_cases c : i < s.length
 case neg =>
  have hn := no (by rw [hu, List.drop_eq_nil_of_le (by omega)]; exact unq_end)
  have cI : ¬ (i : Int) < s.length := by omega
  simp only [zZd.b32]
  simp [zZd.r5, zZd.r33, k0, k10, hl, vZm, c, cI, hn]
 obtain ⟨b, hb⟩ : ∃ b, s[i]? = some b := ⟨_, List.getElem?_eq_getElem c⟩
 have hdr : s.drop i = b :: s.drop (i + 1) := by rw [List.drop_eq_getElem_cons c]; congr 1; exact (List.getElem?_eq_some_iff.1 hb).2
 have ix := idx_T (h := Hh) (k := .i64) (n := (i : Int)) (by omega) (by simpa using hb)
 have hb' := b.toNat_lt
 have w16 : ∀ b : UInt8, IntKind.u16.wrap (b.toNat : Int) = b.toNat := fun b => by
  have := b.toNat_lt
  simp only [IntKind.wrap, IntKind.bits, IntKind.signed, Bool.false_and, Bool.false_eq_true, if_false]; omega
 have wr := wrap64 (n := (i : Int) + 1) (by omega) (by omega)
 have hbr := fun H => xZo b.toNat (by omega) H
 have addU : ∀ u : Nat, ∃ v' o' H2, evApp (Hh ++ [.row 1 [[.int .u16 u]] 0 true]) 1 2 v (.sl Hh.length 0 0 1) = some (v', H2) ∧ VL H2 1 v' o' ((out ++ [u]).map cU) := by
  intro u
  obtain ⟨v', o', H2, ha, hv2, _⟩ := hv.add (by_ := 2) (es := [cU u]) (plainU1 u) (by simp [roomB]; omega)
  exact ⟨v', o', H2, ha, by simpa using hv2⟩
 have hbs := fun u : Nat => bs1 Hh (.int .u16 0) (.int .u16 u) ⟨rfl, rfl⟩
 rw [hdr] at hu
 by_cases c34 : b = 34
 ·have q34 := eqB b 34 true (by simpa using c34)
  rw [e34] at q34
  have hs : unquote k y s = some (out, s.drop (i + 1)) := by rw [hu, c34]; exact zYaN
  have hf := yes _ _ v o Hh hs hv
  have h2 := zYaw (h := Hh) (l := s) (k := .i64) (a := (i : Int) + 1) (by omega) (by omega)
  have e2 : ((i : Int) + 1).toNat = i + 1 := by omega
  rw [e2] at h2
  simp only [zZd.b32]
  simp [zZd.r5, zZd.r6, zZd.r7, k0, k9, k10, hl, vZm, c, ix, evConv, w16, q34]
  refine kDraw1 zZd.r8.ord ?_
  simp [zZd.r8, k0, k9, k10, hl, wr, h2, hf]
 have q34 := eqB b 34 false (by simpa using c34)
 rw [e34] at q34
 cases cb : bare b.toNat
 case true =>
  have hs := hu.trans (unq_bare cb)
  obtain ⟨v', o', H2, ha, hv2⟩ := addU b.toNat
  simp only [zZd.b32]
  simp [zZd.r5, zZd.r6, zZd.r7, zZd.r9, zZd.r10, zZd.r31, k0, k9, k10, hl, vZm, c, ix, evConv, w16, q34, hbr, cb, hbs, ha, wr]
  refine ⟨s.length - (i + 1), by omega, ?_⟩
  rw [hI]
  exact ⟨i + 1, v', o', out ++ [b.toNat], rfl, by omega, by omega, ⟨by simp [k0], by simp [k1], by simp [k2], by simp [hl], by simp [hl], by simp [hl]⟩, rfl, hv2, by simp; omega, hs⟩
 have q92 : ∀ x, x = (b == 92) → ((b.toNat : Int) != 92) = !x := fun x hx => by have := eqB b 92 x hx; rw [e92] at this; unfold bne; rw [this]
 by_cases c92 : b = 92
 case neg =>
  have hn := no (hu.trans (unq_bad c34 cb c92)) Hh
  have q92 := q92 false (by simpa using c92)
  simp only [zZd.b32]
  simp [zZd.r5, zZd.r6, zZd.r7, zZd.r9, zZd.r11, zZd.r12, k0, k9, k10, hl, vZm, c, ix, evConv, w16, q34, hbr, cb, q92, evPick, hn]
 have q92 := q92 true (by simpa using c92)
 rw [c92] at hu
 by_cases ce : i + 1 < s.length
 case neg =>
  have hie : i + 1 = s.length := by omega
  have hn := no (hu.trans (by rw [List.drop_eq_nil_of_le (by omega)]; exact zYaO)) Hh
  have qe : ((i : Int) + 1 == (s.length : Int)) = true := by simp; omega
  simp only [zZd.b32]
  simp [zZd.r5, zZd.r6, zZd.r7, zZd.r9, zZd.r11, zZd.r12, k0, k9, k10, hl, vZm, c, ix, evConv, w16, q34, hbr, cb, q92, evPick, wr, qe, hn]
 have qe : ((i : Int) + 1 == (s.length : Int)) = false := by simp; omega
 obtain ⟨e, he1⟩ : ∃ e, s[i + 1]? = some e := ⟨_, List.getElem?_eq_getElem ce⟩
 have hdr2 : s.drop (i + 1) = e :: s.drop (i + 2) := by rw [List.drop_eq_getElem_cons ce]; congr 1; exact (List.getElem?_eq_some_iff.1 he1).2
 rw [hdr2] at hu
 have ixe := fun h : Heap => idx_T (h := h) (k := .i64) (n := (i : Int) + 1) (by omega) (show s[((i : Int) + 1).toNat]? = some e by rw [show ((i : Int) + 1).toNat = i + 1 by omega]; exact he1)
 have p34 : ∀ x, x = (e == 34) → ((e.toNat : Int) == 34) = x := fun x hx => by have := eqB e 34 x hx; rwa [e34] at this
 have p92 : ∀ x, x = (e == 92) → ((e.toNat : Int) == 92) = x := fun x hx => by have := eqB e 92 x hx; rwa [e92] at this
 have wr2 := wrap64 (n := (i : Int) + 1 + 1) (by omega) (by omega)
 by_cases cq : e = 34 ∨ e = 92
 ·have hs := hu.trans (unq_esc cq)
  obtain ⟨v', o', H2, ha, hv2⟩ := addU e.toNat
  have fin : I (s.length - (i + 2)) { env := env, marks := [], heap := H2 } → True := fun _ => trivial
  by_cases cq34 : e = 34
  ·have p34 := p34 true (by simpa using cq34)
   simp only [zZd.b32]
   simp [zZd.r5, zZd.r6, zZd.r7, zZd.r9, zZd.r11, zZd.r13, zZd.r14, zZd.r15, zZd.r31, k0, k9, k10, hl, vZm, c, ix, evConv, w16, q34, hbr, cb, q92, evPick, wr, qe, ixe, p34, hbs, ha, wr2]
   refine ⟨s.length - (i + 2), by omega, ?_⟩
   rw [hI]
   exact ⟨i + 2, v', o', out ++ [e.toNat], rfl, by omega, by omega, ⟨by simp [k0], by simp [k1], by simp [k2], by simp [hl], by simp [hl]; omega, by simp [hl]⟩, rfl, hv2, by simp; omega, hs⟩
  ·have cq92 := cq.resolve_left cq34
   have p34 := p34 false (by simpa using cq34)
   have p92 := p92 true (by simpa using cq92)
   simp only [zZd.b32]
   simp [zZd.r5, zZd.r6, zZd.r7, zZd.r9, zZd.r11, zZd.r13, zZd.r14, zZd.r15, zZd.r31, k0, k9, k10, hl, vZm, c, ix, evConv, w16, q34, hbr, cb, q92, evPick, wr, qe, ixe, p34, p92, hbs, ha, wr2]
   refine ⟨s.length - (i + 2), by omega, ?_⟩
   rw [hI]
   exact ⟨i + 2, v', o', out ++ [e.toNat], rfl, by omega, by omega, ⟨by simp [k0], by simp [k1], by simp [k2], by simp [hl], by simp [hl]; omega, by simp [hl]⟩, rfl, hv2, by simp; omega, hs⟩
 have p34 := p34 false (by simp; exact fun h => cq (.inl h))
 have p92 := p92 false (by simp; exact fun h => cq (.inr h))
 have py : ∀ x, x = (e == y) → ((e.toNat : Int) != (y.toNat : Int)) = !x := fun x hx => by unfold bne; rw [eqB e y x hx]
 by_cases cy : e = y
 case neg =>
  have py := py false (by simpa using cy)
  have hn := no (hu.trans (unq_not cq cy)) Hh
  simp only [zZd.b32]
  simp [zZd.r5, zZd.r6, zZd.r7, zZd.r9, zZd.r11, zZd.r13, zZd.r14, zZd.r16, zZd.r17, k0, k2, k9, k10, hl, vZm, c, ix, evConv, w16, q34, hbr, cb, q92, evPick, wr, qe, ixe, p34, p92, py, hn]
 have py := py true (by simpa using cy)
 have wrk := wrap64 (n := (i : Int) + 1 + k) (by omega) (by omega)
 by_cases ck : i + 1 + k < s.length
 case neg =>
  have cK : (s.length : Int) ≤ (i : Int) + 1 + k := by omega
  have hn := no (hu.trans (by rw [cy]; exact zYaD hy (xZX _ _ _ (by simp; omega)))) Hh
  simp only [zZd.b32]
  simp [zZd.r5, zZd.r6, zZd.r7, zZd.r9, zZd.r11, zZd.r13, zZd.r14, zZd.r16, zZd.r17, k0, k1, k2, k9, k10, hl, vZm, c, ix, evConv, w16, q34, hbr, cb, q92, evPick, wr, qe, ixe, p34, p92, py, wrk, cK, hn]
 have cK : ¬ (s.length : Int) ≤ (i : Int) + 1 + k := by omega
 simp only [zZd.b32]
 simp [zZd.r5, zZd.r6, zZd.r7, zZd.r9, zZd.r11, zZd.r13, zZd.r14, zZd.r16, zZd.r18, zZd.r19, k0, k1, k2, k9, k10, hl, vZm, c, ix, evConv, w16, q34, hbr, cb, q92, evPick, wr, qe, ixe, p34, p92, py, wrk, cK]
 rw [cy] at hu
 obtain ⟨J, hJ⟩ : ∃ J : Nat → St → Prop, J = fun m st => ∃ (d u : Nat), m = k - d ∧ d ≤ k ∧ (eget st.env 0 = T s ∧ eget st.env 1 = .int .i64 k ∧ eget st.env 2 = .int .u8 y.toNat ∧ eget st.env 9 = v ∧ eget st.env 10 = .int .i64 ((i : Int) + 1) ∧ eget st.env 11 = .int .u16 u ∧ eget st.env 12 = .int .i64 ((d : Int) + 1) ∧ st.env.length = 115) ∧ st.marks = [] ∧ st.heap = Hh ∧ u < 16 ^ d ∧ hexv k (s.drop (i + 2)) 0 = hexv (k - d) (s.drop (i + 2 + d)) u := ⟨_, rfl⟩
 refine kLoop J k (by
  rw [hJ]
  exact ⟨0, 0, rfl, by omega, ⟨by simp [k0], by simp [k1], by simp [k2], by simp [k9], by simp [hl], by simp [hl], by simp [hl], by simp [hl]⟩, rfl, rfl, by simp, rfl⟩) ?_
 rintro m ⟨env2, mk, Hh2⟩ hst
 rw [hJ] at hst
 obtain ⟨d, u, rfl, hdk0, ⟨j0, j1, j2, j9, j10, j11, j12, jl⟩, hm, hh, hub, hhx⟩ := hst
 simp only at j0 j1 j2 j9 j10 j11 j12 jl hm hh
 obtain rfl := hm
 obtain rfl := hh
 by_cases cd : d < k
 ·have hpow : 16 ^ d ≤ 16 ^ 3 := Nat.pow_le_pow_right (by omega) (by omega)
  have e163 : 16 ^ 3 = 4096 := by decide
  have hu4 : u < 4096 := by omega
  have cd2 : (d : Int) + 1 ≤ (k : Int) := by omega
  have hlt : i + 2 + d < s.length := by omega
  obtain ⟨z, hz1⟩ : ∃ z, s[i + 2 + d]? = some z := ⟨_, List.getElem?_eq_getElem hlt⟩
  have hdz : s.drop (i + 2 + d) = z :: s.drop (i + 2 + d + 1) := by rw [List.drop_eq_getElem_cons hlt]; congr 1; exact (List.getElem?_eq_some_iff.1 hz1).2
  obtain ⟨q, hq2⟩ : ∃ q, k - d = q + 1 := ⟨k - d - 1, by omega⟩
  have hq3 : k - (d + 1) = q := by omega
  rw [hdz, hq2] at hhx
  have ixz := idx_T (h := Hh2) (k := .i64) (n := (i : Int) + 1 + ((d : Int) + 1)) (by omega) (show s[((i : Int) + 1 + ((d : Int) + 1)).toNat]? = some z by rw [show ((i : Int) + 1 + ((d : Int) + 1)).toNat = i + 2 + d by omega]; exact hz1)
  have wz := wrap64 (n := (i : Int) + 1 + ((d : Int) + 1)) (by omega) (by omega)
  have hc := hex_call z Hh2
  have e60 : (2 : Nat) ^ 40 = 1099511627776 := by decide
  have wd := wrap64 (n := (d : Int) + 1 + 1) (by omega) (by omega)
  cases hdv : hd z with
  | none =>
   have hI1 : hdI z = -1 := by simp [hdI, hdv]
   have hn := no (hu.trans (zYaD hy (by rw [hhx]; simp only [hexv, hdv]))) Hh2
   rw [hI1] at hc
   simp only [zZd.b26]
   simp [zZd.r20, zZd.r21, zZd.r22, zZd.r23, j0, j1, j10, j12, jl, cd2, ixz, wz, hc, hn]
  | some x =>
   have hx16 := hd_lt hdv
   have hI1 : hdI z = (x : Int) := by simp [hdI, hdv]
   have c0 : ¬ (x : Int) < 0 := by omega
   have w16x : IntKind.u16.wrap (x : Int) = (x : Int) := by
    simp only [IntKind.wrap, IntKind.bits, IntKind.signed, Bool.false_and, Bool.false_eq_true, if_false]; omega
   rw [hI1] at hc
   have hs1 := shl_u16 hu4
   have hs2 := or_u16 hu4 hx16
   obtain ⟨u', hu'⟩ : ∃ u', u' = 16 * u := ⟨_, rfl⟩
   obtain ⟨u2, hu2⟩ : ∃ u2, u2 = 16 * u + x := ⟨_, rfl⟩
   rw [← hu'] at hs1 hs2
   rw [show u' + x = u2 by omega] at hs2
   simp only [zZd.b26]
   simp [zZd.r20, zZd.r21, zZd.r22, zZd.r24, zZd.r25, j0, j1, j10, j11, j12, jl, cd2, ixz, wz, hc, c0, evConv, w16x, hs1, hs2, wd]
   refine ⟨k - (d + 1), by omega, ?_⟩
   rw [hJ]
   refine ⟨d + 1, u2, rfl, by omega, ⟨by simp [j0], by simp [j1], by simp [j2], by simp [j9], by simp [j10], by simp [jl], by simp [jl], by simp [jl]⟩, rfl, rfl, by rw [Nat.pow_succ]; omega, ?_⟩
   rw [hhx, hq3, hu2]
   simp only [hexv, hdv]
   rfl
 ·have hdk : d = k := by omega
  rw [hdk, Nat.sub_self] at hhx
  have hhs : hexv k (s.drop (i + 2)) 0 = some u := by rw [hhx]; rfl
  have hu16 : u < 65536 := by
   have : 16 ^ d ≤ 16 ^ 4 := Nat.pow_le_pow_right (by omega) (by omega)
   have e164 : 16 ^ 4 = 65536 := by decide
   omega
  have cd2 : ¬ (d : Int) + 1 ≤ (k : Int) := by omega
  have hpl := fun H => kZ3 u hu16 H
  have hs := hu.trans (unq_hexs hy hhs)
  simp only [zZd.b26]
  cases hsh : shown u
  ·rw [hsh] at hs
   simp only [Bool.false_eq_true, if_false, List.drop_drop] at hs
   obtain ⟨v', o', H2, ha, hv2⟩ := addU u
   have wk1 := wrap64 (n := (i : Int) + 1 + k + 1) (by omega) (by omega)
   simp [zZd.r20, zZd.r27, zZd.r29, zZd.r30, zZd.r31, j0, j1, j9, j10, j11, j12, jl, cd2, hpl, hsh, hbs, ha, wrk, wk1]
   refine ⟨s.length - (i + 2 + k), by omega, ?_⟩
   rw [hI]
   exact ⟨i + 2 + k, v', o', out ++ [u], rfl, by omega, by omega, ⟨by simp [j0], by simp [j1], by simp [j2], by simp [jl], by simp [jl]; omega, by simp [jl]⟩, rfl, hv2, by simp; omega, hs⟩
  ·rw [hsh] at hs
   have hn := no hs Hh2
   simp [zZd.r20, zZd.r27, zZd.r28, j0, j1, j10, j11, j12, jl, cd2, hpl, hsh, hn]
end Go.Proofs.Sc
