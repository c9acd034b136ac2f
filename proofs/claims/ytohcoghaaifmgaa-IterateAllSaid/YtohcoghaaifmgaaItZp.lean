/- Filters: which are right. Filters: what they say of a node. No conditions. -/
import Derived.Test.YtohcoghaaifmgaaItZn
set_option maxHeartbeats 16000000
set_option maxRecDepth 100000
set_option linter.unusedVariables false
set_option linter.unusedSimpArgs false
set_option linter.unusedSectionVars false
namespace Go.Proofs.It
open Go Go.Ev
structure Ru where
 kind : Int
 lo : ByteArray
 vd : Int
structure Flt where
 sh : Int
 rules : List Ru
structure Itr where
 root : Int
 ref : Int
 before : Bool
 flt : Flt
def cR (r : Ru) : List V := [.int .u8 r.kind, .str r.lo, .int .u8 r.vd]
def cFl (t : Flt) : List V := [.int .u32 t.sh, .arr (t.rules.map cR)]
def eFl (t : Flt) : V := .agg (cFl t)
def cIt (i : Itr) : List V := [.int .i64 i.root, .int .i64 i.ref, .bool i.before, .int .u32 i.flt.sh, .arr (i.flt.rules.map cR)]
def eIt (i : Itr) : V := .agg (cIt i)
theorem cR_len (r : Ru) : (cR r).length = 3 := rfl
theorem okR (H : Heap) (r : Ru) : okCells H (some 3) (some (cR r)) = some (.agg (cR r), H) := rfl
theorem okR0 (H : Heap) (r : Ru) : okCells H none (some (cR r)) = some (.int .u8 r.kind, H) := rfl
theorem okR1 (H : Heap) (r : Ru) : okCells H none (some (cR r).tail) = some (.str r.lo, H) := rfl
theorem okR2 (H : Heap) (r : Ru) : okCells H none (some ((cR r).drop 2)) = some (.int .u8 r.vd, H) := rfl
theorem okF0 (H : Heap) (t : Flt) : okCells H none (some (cFl t)) = some (.int .u32 t.sh, H) := rfl
theorem okF1 (H : Heap) (t : Flt) : okCells H none (some (cFl t).tail) = some (.arr (t.rules.map cR), H) := rfl
theorem okF (H : Heap) (t : Flt) : okCells H (some 2) (some (cFl t)) = some (.agg (cFl t), H) := rfl
theorem flatFl (t : Flt) : flat2 (eFl t) = true := rfl
theorem pushR (H : Heap) (r : Ru) : evStoreV (H ++ [Ob.cells [.int .u8 0, .str ⟨#[]⟩, .int .u8 0]]) 3 (.ptr H.length 0) (.agg (cR r)) = some (V.non, H ++ [Ob.cells (cR r)]) := by
 simp [evStoreV, cR, V.cells, V.isCell, evStore, setRange, ob_set]
theorem atRu (H : Heap) (r : Ru) (off : Nat) : cellsAt (H ++ [Ob.cells (cR r)]) (.ptr H.length off) = some ((cR r).drop off) := by simp [cellsAt]
theorem qZv {H : Heap} {id : Nat} {cs : List V} (h : H[id]? = some (.cells cs)) (off : Nat) : cellsAt H (.ptr id off) = some (cs.drop off) := by simp [cellsAt, h]
theorem qZd (H : Heap) {cs : List V} (h : cs.all V.isCell = true) : evBox H cs = some (.ptr H.length 0, H ++ [.cells cs]) := by
 show (if cs.all V.isCell then newOb H (.ptr H.length 0) (.cells cs) else none) = _
 rw [if_pos h, qZB]
def ruOk (r : Ru) : Bool := decide (1 ≤ r.vd ∧ r.vd ≤ 3)
def rusOk : List Ru → Bool
 | [] => true
 | x :: l => ruOk x && rusOk l
def wrongT (t : Flt) : Int := if 64 < t.rules.length then 3 else if rusOk t.rules then 0 else 23
theorem kZx (t : Flt) (hl : t.rules.length < 2 ^ 50) (H : Heap) : callW Φ zZB [eFl t] H = some (.int .i64 (wrongT t), H) := by
 have : ∃ hh, evBodyW (callW Φ) zZB.c [eFl t] [] = some (.int .i64 (wrongT t), hh) := by
  obtain ⟨K0, hK0⟩ : ∃ K0 : Heap, K0 = [.cells (cFl t)] := ⟨_, rfl⟩
  have hb1 : evBox [] (cFl t) = some (.ptr 0 0, K0) := by rw [hK0]; exact qZd [] rfl
  have k0 : K0[0]? = some (.cells (cFl t)) := by rw [hK0]; rfl
  have c0 := qZv k0
  have c00 := c0 0
  rw [List.drop_zero] at c00
  have hcc : (eFl t).cells = cFl t := rfl
  obtain ⟨l, hl0⟩ : ∃ l, l = t.rules := ⟨_, rfl⟩
  refine qZE (Nat.le_of_ble_eq_true rfl) (fun env he h0 => ?_)
  have g0 := h0 0 (by simp)
  change eget env 0 = eFl t at g0
  clear h0
  simp [zZB.c] at he
  by_cases hbig : 64 < t.rules.length
  ·have hw : wrongT t = 3 := by simp [wrongT, hbig]
   have hz : (64 : Int) < (t.rules.length : Int) := by omega
   rw [hw]
   simp [zZB.c, zZB.r0, zZB.r1, zZB.r2, zZB.r3, zZB.r10, g0, he, hcc, hb1, c0, okF1, hz]
  ·have hz : ¬ (64 : Int) < (t.rules.length : Int) := by omega
   have hw : wrongT t = if rusOk l then 0 else 23 := by simp [wrongT, hbig, hl0]
   rw [hw]
   rw [← hl0] at hl hz
   have okF1 : ∀ H, okCells H none (some (cFl t).tail) = some (.arr (l.map cR), H) := fun H => by rw [hl0]; rfl
   simp [zZB.c, zZB.r0, zZB.r1, zZB.r2, zZB.r3, zZB.r10, g0, he, hcc, hb1, c0, okF1, hz]
   refine kLoop (fun m s => ∃ i : Nat, m = l.length - i ∧ i ≤ l.length ∧ s.env.length = 25 ∧ eget s.env 10 = .arr (l.map cR) ∧ eget s.env 11 = .int .i64 l.length ∧ eget s.env 12 = .int .i64 i ∧ s.marks = [] ∧ rusOk l = rusOk (l.drop i)) l.length ⟨0, by simp [he]⟩ ?_
   rintro m ⟨e, mk, hp⟩ ⟨i, rfl, hi, he, k10, k11, k12, hm, hat⟩
   simp only at he k10 k11 k12 hm
   obtain rfl := hm
   by_cases hlt : i < l.length
   ·obtain ⟨x, hx⟩ : ∃ x, l[i]? = some x := ⟨_, List.getElem?_eq_getElem hlt⟩
    have hw : IntKind.i64.wrap ((i : Int) + 1) = ((i + 1 : Nat) : Int) := by rw [Ev.wrap64] <;> omega
    have ha1 := qZj (h := hp) (k := .i64) cR_len hx
    have hpu := pushR hp x
    have d2 := atRu hp x
    have d0 := d2 0
    rw [List.drop_zero] at d0
    obtain ⟨H2, hH2⟩ : ∃ H2, H2 = hp ++ [Ob.cells (cR x)] := ⟨_, rfl⟩
    rw [← hH2] at hpu d2 d0
    rw [vZe hx] at hat
    simp only [rusOk] at hat
    by_cases h1 : x.vd < 1
    ·have hi : ruOk x = false := by simp [ruOk]; omega
     rw [hi, Bool.false_and] at hat
     rw [hat]
     simp [zZB.b9, zZB.r4, zZB.r5, zZB.r6, zZB.r7, zZB.r8, k10, k11, k12, he, hlt, ha1, okR, hpu, d2, d0, okR2, h1, evPick]
    ·by_cases h2 : 3 < x.vd
     ·have hi : ruOk x = false := by simp [ruOk]; omega
      rw [hi, Bool.false_and] at hat
      rw [hat]
      simp [zZB.b9, zZB.r4, zZB.r5, zZB.r6, zZB.r7, zZB.r8, k10, k11, k12, he, hlt, ha1, okR, hpu, d2, d0, okR2, h1, h2, evPick]
     ·have hi : ruOk x = true := by simp [ruOk]; omega
      rw [hi, Bool.true_and] at hat
      simp [zZB.b9, zZB.r4, zZB.r5, zZB.r6, zZB.r7, zZB.r8, k10, k11, k12, he, hlt, ha1, okR, hpu, d2, d0, okR2, h1, h2, evPick]
      exact ⟨l.length - (i + 1), by omega, i + 1, rfl, by omega, by simpa using hw, by simpa using hat⟩
   ·have : i = l.length := by omega
    subst this
    rw [List.drop_length] at hat
    simp only [rusOk] at hat
    rw [hat]
    simp [zZB.b9, zZB.r4, zZB.r5, zZB.r6, zZB.r7, zZB.r8, zZB.r10, k11, k12, he]
 obtain ⟨h', hb⟩ := this
 exact zZQ (h := H) zZB.Φ rfl (args := [eFl t]) rfl hb rfl
def faultT (f : List Nd) (t : Flt) (l : List Int) : Int := if faultL f l = 0 then wrongT t else faultL f l
theorem xZy (f : List Nd) (z : Sz f) (t : Flt) (hl : t.rules.length < 2 ^ 50) (q : List Int) (hq : q.length < 2 ^ 50) (H : Heap) : callW Φ zZq [eF f, eFl t, eI q] H = some (.int .i64 (faultT f t q), H) := by
 have : ∃ hh, evBodyW (callW Φ) zZq.c [eF f, eFl t, eI q] [] = some (.int .i64 (faultT f t q), hh) := by
  obtain ⟨K0, hK0⟩ : ∃ K0 : Heap, K0 = [cF f] := ⟨_, rfl⟩
  have hb0 : evBox [] [.arr (f.map cN)] = some (.ptr 0 0, K0) := by rw [hK0]; simp [evBox, V.isCell, qZB]
  obtain ⟨K1, hK1⟩ : ∃ K1 : Heap, K1 = [cF f, .cells (cFl t)] := ⟨_, rfl⟩
  have hb1 : evBox K0 (cFl t) = some (.ptr 1 0, K1) := by rw [hK0, hK1]; exact qZd _ rfl
  have k1 : K1[1]? = some (.cells (cFl t)) := by rw [hK1]; rfl
  have cK : cellsAt K1 (.ptr 0 0) = some [.arr (f.map cN)] := by rw [hK1]; rfl
  have c0 := qZv k1
  have hcc : (eFl t).cells = cFl t := rfl
  have hcf : (V.agg [V.arr (f.map cN)]).cells = [.arr (f.map cN)] := rfl
  obtain ⟨l, hl0⟩ : ∃ l, l = t.rules := ⟨_, rfl⟩
  have hT := wZY f z q hq K1
  simp only [eF, eI] at hT
  refine qZE (Nat.le_of_ble_eq_true rfl) (fun env he h0 => ?_)
  have g0 := h0 0 (by simp)
  change eget env 0 = .agg [.arr (f.map cN)] at g0
  have g1 := h0 1 (by simp)
  change eget env 1 = eFl t at g1
  have g2 := h0 2 (by simp)
  change eget env 2 = .arr (q.map cI) at g2
  clear h0
  simp [zZq.c] at he
  by_cases hf : faultL f q = 0
  case neg =>
   have hw : faultT f t q = faultL f q := by simp [faultT, hf]
   have hb : (faultL f q != 0) = true := by simpa using hf
   rw [hw]
   simp [zZq.c, zZq.r0, zZq.r1, zZq.r2, zZq.r3, zZq.r4, zZq.r5, zZq.r6, zZq.r16, g0, g1, g2, he, hcc, hcf, hb0, hb1, cK, hT, hb, ofCells]
  have hb : (faultL f q != 0) = false := by simpa using hf
  have hw : faultT f t q = wrongT t := by simp [faultT, hf]
  rw [hw]
  by_cases hbig : 64 < t.rules.length
  ·have hw : wrongT t = 3 := by simp [wrongT, hbig]
   have hz : (64 : Int) < (t.rules.length : Int) := by omega
   rw [hw]
   simp [zZq.c, zZq.r0, zZq.r1, zZq.r2, zZq.r3, zZq.r4, zZq.r5, zZq.r6, zZq.r16, g0, g1, g2, he, hcc, hcf, hb0, hb1, cK, hT, hb, c0, okF1, hz, ofCells]
  ·have hz : ¬ (64 : Int) < (t.rules.length : Int) := by omega
   have hw : wrongT t = if rusOk l then 0 else 23 := by simp [wrongT, hbig, hl0]
   rw [hw]
   rw [← hl0] at hl hz
   have okF1 : ∀ H, okCells H none (some (cFl t).tail) = some (.arr (l.map cR), H) := fun H => by rw [hl0]; rfl
   simp [zZq.c, zZq.r0, zZq.r1, zZq.r2, zZq.r3, zZq.r4, zZq.r5, zZq.r6, zZq.r16, g0, g1, g2, he, hcc, hcf, hb0, hb1, cK, hT, hb, c0, okF1, hz, ofCells]
   refine kLoop (fun m s => ∃ i : Nat, m = l.length - i ∧ i ≤ l.length ∧ s.env.length = 34 ∧ eget s.env 21 = .arr (l.map cR) ∧ eget s.env 22 = .int .i64 l.length ∧ eget s.env 23 = .int .i64 i ∧ s.marks = [] ∧ rusOk l = rusOk (l.drop i)) l.length ⟨0, by simp [he]⟩ ?_
   rintro m ⟨e, mk, hp⟩ ⟨i, rfl, hi, he, k10, k11, k12, hm, hat⟩
   simp only at he k10 k11 k12 hm
   obtain rfl := hm
   by_cases hlt : i < l.length
   ·obtain ⟨x, hx⟩ : ∃ x, l[i]? = some x := ⟨_, List.getElem?_eq_getElem hlt⟩
    have hw : IntKind.i64.wrap ((i : Int) + 1) = ((i + 1 : Nat) : Int) := by rw [Ev.wrap64] <;> omega
    have ha1 := qZj (h := hp) (k := .i64) cR_len hx
    have hpu := pushR hp x
    have d2 := atRu hp x
    obtain ⟨H2, hH2⟩ : ∃ H2, H2 = hp ++ [Ob.cells (cR x)] := ⟨_, rfl⟩
    rw [← hH2] at hpu d2
    rw [vZe hx] at hat
    simp only [rusOk] at hat
    cases h1 : (x.vd == 1)
    ·cases h2 : (x.vd == 2)
     ·cases h3 : (x.vd == 3)
      ·have hi : ruOk x = false := by simp [ruOk] at *; omega
       rw [hi, Bool.false_and] at hat
       rw [hat]
       simp [zZq.b15, zZq.r7, zZq.r8, zZq.r9, zZq.r10, zZq.r11, zZq.r12, zZq.r13, zZq.r14, k10, k11, k12, he, hlt, ha1, okR, hpu, d2, okR2, h1, h2, h3]
      ·have hi : ruOk x = true := by simp [ruOk] at *; omega
       rw [hi, Bool.true_and] at hat
       simp [zZq.b15, zZq.r7, zZq.r8, zZq.r9, zZq.r10, zZq.r11, zZq.r12, zZq.r13, zZq.r14, k10, k11, k12, he, hlt, ha1, okR, hpu, d2, okR2, h1, h2, h3]
       exact ⟨l.length - (i + 1), by omega, i + 1, rfl, by omega, by simpa using hw, by simpa using hat⟩
     ·have hi : ruOk x = true := by simp [ruOk] at *; omega
      rw [hi, Bool.true_and] at hat
      simp [zZq.b15, zZq.r7, zZq.r8, zZq.r9, zZq.r10, zZq.r11, zZq.r12, zZq.r13, zZq.r14, k10, k11, k12, he, hlt, ha1, okR, hpu, d2, okR2, h1, h2]
      exact ⟨l.length - (i + 1), by omega, i + 1, rfl, by omega, by simpa using hw, by simpa using hat⟩
    ·have hi : ruOk x = true := by simp [ruOk] at *; omega
     rw [hi, Bool.true_and] at hat
     simp [zZq.b15, zZq.r7, zZq.r8, zZq.r9, zZq.r10, zZq.r11, zZq.r12, zZq.r13, zZq.r14, k10, k11, k12, he, hlt, ha1, okR, hpu, d2, okR2, h1]
     exact ⟨l.length - (i + 1), by omega, i + 1, rfl, by omega, by simpa using hw, by simpa using hat⟩
   ·have : i = l.length := by omega
    subst this
    rw [List.drop_length] at hat
    simp only [rusOk] at hat
    rw [hat]
    simp [zZq.b15, zZq.r7, zZq.r8, zZq.r9, zZq.r10, zZq.r11, zZq.r12, zZq.r13, zZq.r14, zZq.r16, k11, k12, he]
 obtain ⟨h', hb⟩ := this
 exact zZQ (h := H) zZq.Φ rfl (args := [eF f, eFl t, eI q]) rfl hb rfl
theorem xZJ (f : List Nd) (z : Sz f) (t : Flt) (hl : t.rules.length < 2 ^ 50) (q : List Int) (hq : q.length < 2 ^ 50) (H : Heap) : callW Φ zZq [eF f, eFl t, .sl H.length 0 0 q.length] (H ++ [Ob.row 1 (q.map cI) 0 true]) = some (.int .i64 (faultT f t q), H ++ [Ob.row 1 (q.map cI) 0 false]) :=
 row_arg zZq.Φ rfl (args := [eF f, eFl t]) (by simp [flatF, flatFl]) (xZy f z t hl q hq) H
open Go Go.Ev
def bitK (k : Int) : Int := if k = 12 then 10 else k - 1
def shows (s k : Int) : Bool := s.toNat.testBit (bitK k).toNat
def fitR (k : Int) (lo : ByteArray) (r : Ru) : Bool := (r.kind == 0 || r.kind == k) && (beqS r.lo ⟨#[]⟩ || beqS r.lo lo)
def rulesV (k : Int) (lo : ByteArray) : List Ru → Int
 | [] => 1
 | r :: l => if fitR k lo r then r.vd else rulesV k lo l
def verdictV (f : List Nd) (t : Flt) (h : Int) : Int := if shows t.sh (at_ f h).kind then rulesV (at_ f h).kind (at_ f h).name.lo t.rules else 3
theorem two_pow_le {j n : Nat} (h : j < n) : 2 ^ j < 2 ^ n := Nat.pow_lt_pow_right (by decide) h
theorem bits_and {s j : Int} (hs : 0 ≤ s ∧ s < 4294967296) (hj : 0 ≤ j ∧ j < 32) : ∃ b x, binV .shl (.int .u32 1) (.int .u8 j) = some (.int .u32 b) ∧ binV .and (.int .u32 s) (.int .u32 b) = some (.int .u32 x) ∧ (x == 0) = !(s.toNat.testBit j.toNat) := by
 obtain ⟨n, rfl⟩ : ∃ n : Nat, j = n := ⟨j.toNat, by omega⟩
 obtain ⟨m, rfl⟩ : ∃ m : Nat, s = m := ⟨s.toNat, by omega⟩
 have hn : n < 32 := by omega
 have hp : 2 ^ n < 4294967296 := two_pow_le hn
 have hmin : min n 32 = n := by omega
 have hw : IntKind.u32.wrap (1 * 2 ^ (min (n : Int).toNat IntKind.u32.bits)) = ((2 ^ n : Nat) : Int) := by
  have : min (n : Int).toNat IntKind.u32.bits = n := hmin
  rw [this, Int.one_mul, Ev.wrap32]
  ·norm_cast
  ·exact Int.le_of_lt (Int.pow_pos (by decide))
  ·have h3 : (((2 ^ n : Nat)) : Int) = 2 ^ n := by norm_cast
   rw [← h3]
   omega
 have hnn : ¬ (n : Int) < 0 := by omega
 refine ⟨((2 ^ n : Nat) : Int), ((m &&& 2 ^ n : Nat) : Int), by simp only [binV, if_neg hnn, hw], ?_, ?_⟩
 ·have hm : m < 2 ^ 32 := by omega
  have h1 : (BitVec.ofInt 32 (m : Int) &&& BitVec.ofInt 32 ((2 ^ n : Nat) : Int)).toNat = m &&& 2 ^ n := by
   rw [BitVec.toNat_and, BitVec.ofInt_natCast, BitVec.ofInt_natCast, BitVec.toNat_ofNat, BitVec.toNat_ofNat, Nat.mod_eq_of_lt hm, Nat.mod_eq_of_lt hp]
  have hle : m &&& 2 ^ n ≤ m := Nat.and_le_left
  simp only [binV, if_true, intBits]
  show (some (IntKind.u32.wrap ((BitVec.ofInt 32 (m : Int) &&& BitVec.ofInt 32 ((2 ^ n : Nat) : Int)).toNat : Int))).map (V.int .u32) = _
  rw [h1, Ev.wrap32 (by omega) (by omega)]
  rfl
 ·show (((m &&& 2 ^ n : Nat) : Int) == 0) = !(m.testBit n)
  cases ht : m.testBit n
  ·have : m &&& 2 ^ n = 0 := Nat.eq_of_testBit_eq fun i => by
    rw [Nat.testBit_and, Nat.testBit_two_pow]
    by_cases e : n = i
    ·subst e; simp [ht]
    ·simp [e]
   rw [this]
   rfl
  ·have h1 : (m &&& 2 ^ n).testBit n = true := by rw [Nat.testBit_and, Nat.testBit_two_pow]; simp [ht]
   have : m &&& 2 ^ n ≠ 0 := fun e => by rw [e] at h1; simp at h1
   have : ((m &&& 2 ^ n : Nat) : Int) ≠ 0 := by exact_mod_cast this
   simpa using this
theorem bits_shr {s j : Int} (hs : 0 ≤ s ∧ s < 4294967296) (hj : 0 ≤ j ∧ j < 32) : ∃ b x, binV .shr (.int .u32 s) (.int .u64 j) = some (.int .u32 b) ∧ binV .rem (.int .u32 b) (.int .u32 2) = some (.int .u32 x) ∧ (x == 0) = !(s.toNat.testBit j.toNat) := by
 obtain ⟨n, rfl⟩ : ∃ n : Nat, j = n := ⟨j.toNat, by omega⟩
 obtain ⟨m, rfl⟩ : ∃ m : Nat, s = m := ⟨s.toNat, by omega⟩
 have hn : n < 32 := by omega
 have hnn : ¬ (n : Int) < 0 := by omega
 have hd : (m : Int).fdiv (2 ^ (min (n : Int).toNat IntKind.u32.bits)) = ((m / 2 ^ n : Nat) : Int) := by
  have : min (n : Int).toNat IntKind.u32.bits = n := by show min n 32 = n; omega
  rw [this, Int.fdiv_eq_ediv_of_nonneg _ (Int.le_of_lt (Int.pow_pos (by decide)))]
  norm_cast
 refine ⟨((m / 2 ^ n : Nat) : Int), ((m / 2 ^ n % 2 : Nat) : Int), by simp only [binV, if_neg hnn, hd], ?_, ?_⟩
 ·show (if IntKind.u32 = IntKind.u32 then (if (2 : Int) = 0 then none else some (V.int .u32 (((m / 2 ^ n : Nat) : Int).tmod 2))) else none) = _
  rw [if_pos rfl, if_neg (by decide)]
  rfl
 ·have e : (m : Int).toNat = m := rfl
  have e2 : (n : Int).toNat = n := rfl
  rw [e, e2, Nat.testBit_eq_decide_div_mod_eq]
  have : m / 2 ^ n % 2 = 0 ∨ m / 2 ^ n % 2 = 1 := by omega
  rcases this with h | h <;> rw [h] <;> rfl
theorem jZ8 (f : List Nd) (z : Sz f) (t : Flt) (hl : t.rules.length < 2 ^ 50) (hs : 0 ≤ t.sh ∧ t.sh < 4294967296) (h : Int) (hk : 1 ≤ (at_ f h).kind ∧ (at_ f h).kind ≤ 12) (H : Heap) : callW Φ zZh [eF f, eFl t, .int .i64 h] H = some (.int .u8 (verdictV f t h), H) := by
 have : ∃ hh, evBodyW (callW Φ) zZh.c [eF f, eFl t, .int .i64 h] [] = some (.int .u8 (verdictV f t h), hh) := by
  obtain ⟨K0, hK0⟩ : ∃ K0 : Heap, K0 = [cF f] := ⟨_, rfl⟩
  have hb0 : evBox [] [.arr (f.map cN)] = some (.ptr 0 0, K0) := by rw [hK0]; simp [evBox, V.isCell, qZB]
  obtain ⟨K1, hK1⟩ : ∃ K1 : Heap, K1 = [cF f, .cells (cFl t)] := ⟨_, rfl⟩
  have hb1 : evBox K0 (cFl t) = some (.ptr 1 0, K1) := by rw [hK0, hK1]; exact qZd _ rfl
  have cK : cellsAt K1 (.ptr 0 0) = some [.arr (f.map cN)] := by rw [hK1]; rfl
  have l1 : K1.length = 2 := by rw [hK1]; rfl
  obtain ⟨n, hn⟩ : ∃ n, n = at_ f h := ⟨_, rfl⟩
  obtain ⟨K2, hK2⟩ : ∃ K2 : Heap, K2 = [cF f, .cells (cFl t), .cells (cN n)] := ⟨_, rfl⟩
  have hpN := pushN K1 n
  have eK2 : K1 ++ [Ob.cells (cN n)] = K2 := by rw [hK1, hK2]; rfl
  rw [eK2, l1] at hpN
  have k1 : K2[1]? = some (.cells (cFl t)) := by rw [hK2]; rfl
  have k2 : K2[2]? = some (.cells (cN n)) := by rw [hK2]; rfl
  have c1 := qZv k1
  have c2 := qZv k2
  have hcc : (eFl t).cells = cFl t := rfl
  have hcf : (V.agg [V.arr (f.map cN)]).cells = [.arr (f.map cN)] := rfl
  have hA := vZx f h z.len K1
  rw [← hn] at hA hk
  simp only [eF, eN] at hA
  have hV : verdictV f t h = if shows t.sh n.kind then rulesV n.kind n.name.lo t.rules else 3 := by rw [hn]; rfl
  rw [hV]
  have w10 : IntKind.u8.wrap 10 = 10 := rfl
  obtain ⟨l, hl0⟩ : ∃ l, l = t.rules := ⟨_, rfl⟩
  rw [← hl0] at hl ⊢
  have okF1 : ∀ H, okCells H none (some (cFl t).tail) = some (.arr (l.map cR), H) := fun H => by rw [hl0]; rfl
  refine qZE (Nat.le_of_ble_eq_true rfl) (fun env he h0 => ?_)
  have g0 := h0 0 (by simp)
  change eget env 0 = .agg [.arr (f.map cN)] at g0
  have g1 := h0 1 (by simp)
  change eget env 1 = eFl t at g1
  have g2 := h0 2 (by simp)
  change eget env 2 = .int .i64 h at g2
  clear h0
  simp [zZh.c] at he
  have hbit : 0 ≤ bitK n.kind ∧ bitK n.kind < 32 := by unfold bitK; split <;> omega
  obtain ⟨b, x, hB1, hB2, hB3⟩ := bits_and hs hbit
  have hB3 : (x == 0) = !(shows t.sh n.kind) := hB3
  cases hsh : shows t.sh n.kind with
  | false =>
   rw [hsh] at hB3
   rw [if_neg (by decide)]
   by_cases e12 : n.kind = 12
   ·have eb : (n.kind == 12) = true := by simp [e12]
    have hq : bitK n.kind = 10 := by simp [bitK, e12]
    rw [hq] at hB1 
    simp [zZh.c, zZh.r0, zZh.r1, zZh.r2, zZh.r3, zZh.r4, zZh.r5, zZh.r6, zZh.r7, zZh.r14, g0, g1, g2, he, hcc, hcf, hb0, hb1, cK, hA, l1, hpN, c1, c2, eb, w10, hB1, hB2, hB3, okF0, ofCells]
   ·have eb : (n.kind == 12) = false := by simpa using e12
    have hq : bitK n.kind = n.kind - 1 := by simp [bitK, e12]
    have hws : IntKind.u8.wrap (n.kind - 1) = n.kind - 1 := by rw [Ev.wrap8] <;> omega
    rw [hq] at hB1 
    simp [zZh.c, zZh.r0, zZh.r1, zZh.r2, zZh.r3, zZh.r4, zZh.r5, zZh.r6, zZh.r7, zZh.r14, g0, g1, g2, he, hcc, hcf, hb0, hb1, cK, hA, l1, hpN, c1, c2, eb, hws, hB1, hB2, hB3, okF0, ofCells]
  | true =>
   rw [hsh] at hB3
   rw [if_pos rfl]
   have loop : ∀ (env : List V), env.length = 58 → eget env 26 = .arr (l.map cR) → eget env 27 = .int .i64 l.length → eget env 28 = .int .i64 0 → eget env 7 = .ptr 2 0 →
     WK (callW Φ) none (FinV [Rv.tmp 6] (V.int .u8 (rulesV n.kind n.name.lo l))) [It.c (.loop zZh.b13), It.b 0, It.c (Cc.seq (.region zZh.r14) .ret)] { env := env, marks := [], heap := K2 } := by
    intro env he q1 q2 q3 q4
    refine kLoop (fun m s => ∃ i : Nat, m = l.length - i ∧ i ≤ l.length ∧ s.env.length = 58 ∧ eget s.env 26 = .arr (l.map cR) ∧ eget s.env 27 = .int .i64 l.length ∧ eget s.env 28 = .int .i64 i ∧ eget s.env 7 = .ptr 2 0 ∧ s.marks = [] ∧ s.heap[2]? = some (.cells (cN n)) ∧ rulesV n.kind n.name.lo l = rulesV n.kind n.name.lo (l.drop i)) l.length ⟨0, by simp [he, q1, q2, q3, q4, k2]⟩ ?_
    rintro m ⟨e, mk, hp⟩ ⟨i, rfl, hi, he, kr, kl, ki, k7, hm, h2, hat⟩
    simp only at he kr kl ki k7 hm h2
    obtain rfl := hm
    by_cases hlt : i < l.length
    ·obtain ⟨x, hx⟩ : ∃ x, l[i]? = some x := ⟨_, List.getElem?_eq_getElem hlt⟩
     have hw : IntKind.i64.wrap ((i : Int) + 1) = ((i + 1 : Nat) : Int) := by rw [Ev.wrap64] <;> omega
     have ha1 := qZj (h := hp) (k := .i64) cR_len hx
     have hpu := pushR hp x
     have d2 := atRu hp x
     have m2 : (hp ++ [Ob.cells (cR x)])[2]? = some (.cells (cN n)) := by rw [List.getElem?_append_left (List.getElem?_eq_some_iff.1 h2).1]; exact h2
     obtain ⟨H2, hH2⟩ : ∃ H2, H2 = hp ++ [Ob.cells (cR x)] := ⟨_, rfl⟩
     rw [← hH2] at hpu d2 m2
     have cn := qZv m2
     rw [vZe hx] at hat
     simp only [rulesV, fitR] at hat
     have goal : ∀ q, rulesV n.kind n.name.lo l = rulesV n.kind n.name.lo (l.drop (i + 1)) → q = (i : Int) + 1 → ∃ j, j < l.length - i ∧ ∃ i', j = l.length - i' ∧ i' ≤ l.length ∧ q = (i' : Int) ∧ H2[2]? = some (.cells (cN n)) ∧ rulesV n.kind n.name.lo l = rulesV n.kind n.name.lo (l.drop i') := fun q h hq => ⟨l.length - (i + 1), by omega, i + 1, rfl, by omega, by rw [hq]; omega, m2, h⟩
     cases h1 : (x.kind == 0)
     ·cases h2 : (x.kind == n.kind)
      ·simp only [h1, h2, Bool.or_false, Bool.false_and, Bool.false_eq_true, if_false] at hat
       simp [zZh.b13, zZh.r8, zZh.r9, zZh.r10, zZh.r11, zZh.r12, kr, kl, ki, k7, he, hlt, ha1, okR, hpu, d2, cn, okR0, okR1, okR2, h1, h2, evPick]
       exact goal _ hat (by simpa using hw)
      ·cases h3 : beqS x.lo ⟨#[]⟩
       ·cases h4 : beqS x.lo n.name.lo
        ·simp only [h1, h2, h3, h4, Bool.or_false, Bool.and_false, Bool.false_eq_true, if_false] at hat
         simp [zZh.b13, zZh.r8, zZh.r9, zZh.r10, zZh.r11, zZh.r12, kr, kl, ki, k7, he, hlt, ha1, okR, hpu, d2, cn, okR0, okR1, okR2, h1, h2, h3, h4, evPick]
         exact goal _ hat (by simpa using hw)
        ·simp only [h1, h2, h3, h4, Bool.or_true, Bool.and_true, if_true] at hat
         simp [zZh.b13, zZh.r8, zZh.r9, zZh.r10, zZh.r11, zZh.r12, kr, kl, ki, k7, he, hlt, ha1, okR, hpu, d2, cn, okR0, okR1, okR2, h1, h2, h3, h4, evPick, hat]
       ·simp only [h1, h2, h3, Bool.true_or, Bool.or_true, Bool.and_true, if_true] at hat
        simp [zZh.b13, zZh.r8, zZh.r9, zZh.r10, zZh.r11, zZh.r12, kr, kl, ki, k7, he, hlt, ha1, okR, hpu, d2, cn, okR0, okR1, okR2, h1, h2, h3, evPick, hat]
     ·cases h3 : beqS x.lo ⟨#[]⟩
      ·cases h4 : beqS x.lo n.name.lo
       ·simp only [h1, h3, h4, Bool.or_false, Bool.true_or, Bool.and_false, Bool.false_eq_true, if_false] at hat
        simp [zZh.b13, zZh.r8, zZh.r9, zZh.r10, zZh.r11, zZh.r12, kr, kl, ki, k7, he, hlt, ha1, okR, hpu, d2, cn, okR0, okR1, okR2, h1, h3, h4, evPick]
        exact goal _ hat (by simpa using hw)
       ·simp only [h1, h3, h4, Bool.or_true, Bool.true_or, Bool.and_true, if_true] at hat
        simp [zZh.b13, zZh.r8, zZh.r9, zZh.r10, zZh.r11, zZh.r12, kr, kl, ki, k7, he, hlt, ha1, okR, hpu, d2, cn, okR0, okR1, okR2, h1, h3, h4, evPick, hat]
      ·simp only [h1, h3, Bool.true_or, Bool.or_true, Bool.and_true, if_true] at hat
       simp [zZh.b13, zZh.r8, zZh.r9, zZh.r10, zZh.r11, zZh.r12, kr, kl, ki, k7, he, hlt, ha1, okR, hpu, d2, cn, okR0, okR1, okR2, h1, h3, evPick, hat]
    ·have : i = l.length := by omega
     subst this
     rw [List.drop_length] at hat
     simp only [rulesV] at hat
     rw [hat]
     simp [zZh.b13, zZh.r8, zZh.r14, zZh.c, kl, ki, he]
   by_cases e12 : n.kind = 12
   ·have eb : (n.kind == 12) = true := by simp [e12]
    have hq : bitK n.kind = 10 := by simp [bitK, e12]
    rw [hq] at hB1 
    simp [zZh.c, zZh.r0, zZh.r1, zZh.r2, zZh.r3, zZh.r4, zZh.r5, zZh.r7, g0, g1, g2, he, hcc, hcf, hb0, hb1, cK, hA, l1, hpN, c1, c2, eb, w10, hB1, hB2, hB3, okF0, okF1, ofCells]
    exact loop _ (by simp [he]) (by simp [he]) (by simp [he]) (by simp [he]) (by simp [he])
   ·have eb : (n.kind == 12) = false := by simpa using e12
    have hq : bitK n.kind = n.kind - 1 := by simp [bitK, e12]
    have hws : IntKind.u8.wrap (n.kind - 1) = n.kind - 1 := by rw [Ev.wrap8] <;> omega
    rw [hq] at hB1 
    simp [zZh.c, zZh.r0, zZh.r1, zZh.r2, zZh.r3, zZh.r4, zZh.r5, zZh.r7, g0, g1, g2, he, hcc, hcf, hb0, hb1, cK, hA, l1, hpN, c1, c2, eb, hws, hB1, hB2, hB3, okF0, okF1, ofCells]
    exact loop _ (by simp [he]) (by simp [he]) (by simp [he]) (by simp [he]) (by simp [he])
 obtain ⟨h', hb⟩ := this
 exact zZQ (h := H) zZh.Φ rfl (args := [eF f, eFl t, .int .i64 h]) rfl hb rfl
theorem vZ9 (f : List Nd) (z : Sz f) (t : Flt) (hl : t.rules.length < 2 ^ 50) (hs : 0 ≤ t.sh ∧ t.sh < 4294967296) (h : Int) (hk : 1 ≤ (at_ f h).kind ∧ (at_ f h).kind ≤ 12) (H : Heap) : callW Φ zZf [eF f, eFl t, .int .i64 h] H = some (.int .u8 (verdictV f t h), H) := by
 have : ∃ hh, evBodyW (callW Φ) zZf.c [eF f, eFl t, .int .i64 h] [] = some (.int .u8 (verdictV f t h), hh) := by
  obtain ⟨K0, hK0⟩ : ∃ K0 : Heap, K0 = [cF f] := ⟨_, rfl⟩
  have hb0 : evBox [] [.arr (f.map cN)] = some (.ptr 0 0, K0) := by rw [hK0]; simp [evBox, V.isCell, qZB]
  obtain ⟨K1, hK1⟩ : ∃ K1 : Heap, K1 = [cF f, .cells (cFl t)] := ⟨_, rfl⟩
  have hb1 : evBox K0 (cFl t) = some (.ptr 1 0, K1) := by rw [hK0, hK1]; exact qZd _ rfl
  have cK : cellsAt K1 (.ptr 0 0) = some [.arr (f.map cN)] := by rw [hK1]; rfl
  have l1 : K1.length = 2 := by rw [hK1]; rfl
  obtain ⟨n, hn⟩ : ∃ n, n = at_ f h := ⟨_, rfl⟩
  obtain ⟨K2, hK2⟩ : ∃ K2 : Heap, K2 = [cF f, .cells (cFl t), .cells (cN n)] := ⟨_, rfl⟩
  have hpN := pushN K1 n
  have eK2 : K1 ++ [Ob.cells (cN n)] = K2 := by rw [hK1, hK2]; rfl
  rw [eK2, l1] at hpN
  have k1 : K2[1]? = some (.cells (cFl t)) := by rw [hK2]; rfl
  have k2 : K2[2]? = some (.cells (cN n)) := by rw [hK2]; rfl
  have c1 := qZv k1
  have c2 := qZv k2
  have hcc : (eFl t).cells = cFl t := rfl
  have hcf : (V.agg [V.arr (f.map cN)]).cells = [.arr (f.map cN)] := rfl
  have hA := qZV f h z.len K1
  rw [← hn] at hA hk
  simp only [eF, eN] at hA
  have hV : verdictV f t h = if shows t.sh n.kind then rulesV n.kind n.name.lo t.rules else 3 := by rw [hn]; rfl
  rw [hV]
  have w10 : IntKind.u8.wrap 10 = 10 := rfl
  obtain ⟨l, hl0⟩ : ∃ l, l = t.rules := ⟨_, rfl⟩
  rw [← hl0] at hl ⊢
  have okF1 : ∀ H, okCells H none (some (cFl t).tail) = some (.arr (l.map cR), H) := fun H => by rw [hl0]; rfl
  refine qZE (Nat.le_of_ble_eq_true rfl) (fun env he h0 => ?_)
  have g0 := h0 0 (by simp)
  change eget env 0 = .agg [.arr (f.map cN)] at g0
  have g1 := h0 1 (by simp)
  change eget env 1 = eFl t at g1
  have g2 := h0 2 (by simp)
  change eget env 2 = .int .i64 h at g2
  clear h0
  simp [zZf.c] at he
  have hbit : 0 ≤ bitK n.kind ∧ bitK n.kind < 32 := by unfold bitK; split <;> omega
  obtain ⟨b, x, hB1, hB2, hB3⟩ := bits_shr hs hbit
  have hB3 : (x == 0) = !(shows t.sh n.kind) := hB3
  have hcv : ∀ H, evConv H (.int .u64) (.int .u8 (bitK n.kind)) = some (.int .u64 (bitK n.kind), H) := fun H => by
   have : IntKind.u64.wrap (bitK n.kind) = bitK n.kind := by simp only [IntKind.wrap, IntKind.bits, IntKind.signed, Bool.false_and, Bool.false_eq_true, if_false]; omega
   simp [evConv, this]
  cases hsh : shows t.sh n.kind with
  | false =>
   rw [hsh] at hB3
   rw [if_neg (by decide)]
   by_cases e12 : n.kind = 12
   ·have eb : (n.kind == 12) = true := by simp [e12]
    have hq : bitK n.kind = 10 := by simp [bitK, e12]
    rw [hq] at hB1 hcv
    simp [zZf.c, zZf.r0, zZf.r1, zZf.r2, zZf.r3, zZf.r4, zZf.r5, zZf.r6, zZf.r7, zZf.r14, g0, g1, g2, he, hcc, hcf, hb0, hb1, cK, hA, l1, hpN, c1, c2, eb, w10, hB1, hB2, hB3, okF0, hcv, evExt, ofCells]
   ·have eb : (n.kind == 12) = false := by simpa using e12
    have hq : bitK n.kind = n.kind - 1 := by simp [bitK, e12]
    have hws : IntKind.u8.wrap (n.kind - 1) = n.kind - 1 := by rw [Ev.wrap8] <;> omega
    rw [hq] at hB1 hcv
    simp [zZf.c, zZf.r0, zZf.r1, zZf.r2, zZf.r3, zZf.r4, zZf.r5, zZf.r6, zZf.r7, zZf.r14, g0, g1, g2, he, hcc, hcf, hb0, hb1, cK, hA, l1, hpN, c1, c2, eb, hws, hB1, hB2, hB3, okF0, hcv, evExt, ofCells]
  | true =>
   rw [hsh] at hB3
   rw [if_pos rfl]
   have loop : ∀ (env : List V), env.length = 63 → eget env 31 = .arr (l.map cR) → eget env 32 = .int .i64 l.length → eget env 33 = .int .i64 0 → eget env 7 = .ptr 2 0 →
     WK (callW Φ) none (FinV [Rv.tmp 6] (V.int .u8 (rulesV n.kind n.name.lo l))) [It.c (.loop zZf.b13), It.b 0, It.c (Cc.seq (.region zZf.r14) .ret)] { env := env, marks := [], heap := K2 } := by
    intro env he q1 q2 q3 q4
    refine kLoop (fun m s => ∃ i : Nat, m = l.length - i ∧ i ≤ l.length ∧ s.env.length = 63 ∧ eget s.env 31 = .arr (l.map cR) ∧ eget s.env 32 = .int .i64 l.length ∧ eget s.env 33 = .int .i64 i ∧ eget s.env 7 = .ptr 2 0 ∧ s.marks = [] ∧ s.heap[2]? = some (.cells (cN n)) ∧ rulesV n.kind n.name.lo l = rulesV n.kind n.name.lo (l.drop i)) l.length ⟨0, by simp [he, q1, q2, q3, q4, k2]⟩ ?_
    rintro m ⟨e, mk, hp⟩ ⟨i, rfl, hi, he, kr, kl, ki, k7, hm, h2, hat⟩
    simp only at he kr kl ki k7 hm h2
    obtain rfl := hm
    by_cases hlt : i < l.length
    ·obtain ⟨x, hx⟩ : ∃ x, l[i]? = some x := ⟨_, List.getElem?_eq_getElem hlt⟩
     have hw : IntKind.i64.wrap ((i : Int) + 1) = ((i + 1 : Nat) : Int) := by rw [Ev.wrap64] <;> omega
     have ha1 := qZj (h := hp) (k := .i64) cR_len hx
     have hpu := pushR hp x
     have d2 := atRu hp x
     have m2 : (hp ++ [Ob.cells (cR x)])[2]? = some (.cells (cN n)) := by rw [List.getElem?_append_left (List.getElem?_eq_some_iff.1 h2).1]; exact h2
     obtain ⟨H2, hH2⟩ : ∃ H2, H2 = hp ++ [Ob.cells (cR x)] := ⟨_, rfl⟩
     rw [← hH2] at hpu d2 m2
     have cn := qZv m2
     rw [vZe hx] at hat
     simp only [rulesV, fitR] at hat
     have goal : ∀ q, rulesV n.kind n.name.lo l = rulesV n.kind n.name.lo (l.drop (i + 1)) → q = (i : Int) + 1 → ∃ j, j < l.length - i ∧ ∃ i', j = l.length - i' ∧ i' ≤ l.length ∧ q = (i' : Int) ∧ H2[2]? = some (.cells (cN n)) ∧ rulesV n.kind n.name.lo l = rulesV n.kind n.name.lo (l.drop i') := fun q h hq => ⟨l.length - (i + 1), by omega, i + 1, rfl, by omega, by rw [hq]; omega, m2, h⟩
     cases h1 : (x.kind == 0)
     ·cases h2 : (x.kind == n.kind)
      ·simp only [h1, h2, Bool.or_false, Bool.false_and, Bool.false_eq_true, if_false] at hat
       simp [zZf.b13, zZf.r8, zZf.r9, zZf.r10, zZf.r11, zZf.r12, kr, kl, ki, k7, he, hlt, ha1, okR, hpu, d2, cn, okR0, okR1, okR2, h1, h2, evPick]
       exact goal _ hat (by simpa using hw)
      ·cases h3 : beqS x.lo ⟨#[]⟩
       ·cases h4 : beqS x.lo n.name.lo
        ·simp only [h1, h2, h3, h4, Bool.or_false, Bool.and_false, Bool.false_eq_true, if_false] at hat
         simp [zZf.b13, zZf.r8, zZf.r9, zZf.r10, zZf.r11, zZf.r12, kr, kl, ki, k7, he, hlt, ha1, okR, hpu, d2, cn, okR0, okR1, okR2, h1, h2, h3, h4, evPick]
         exact goal _ hat (by simpa using hw)
        ·simp only [h1, h2, h3, h4, Bool.or_true, Bool.and_true, if_true] at hat
         simp [zZf.b13, zZf.r8, zZf.r9, zZf.r10, zZf.r11, zZf.r12, kr, kl, ki, k7, he, hlt, ha1, okR, hpu, d2, cn, okR0, okR1, okR2, h1, h2, h3, h4, evPick, hat]
       ·simp only [h1, h2, h3, Bool.true_or, Bool.or_true, Bool.and_true, if_true] at hat
        simp [zZf.b13, zZf.r8, zZf.r9, zZf.r10, zZf.r11, zZf.r12, kr, kl, ki, k7, he, hlt, ha1, okR, hpu, d2, cn, okR0, okR1, okR2, h1, h2, h3, evPick, hat]
     ·cases h3 : beqS x.lo ⟨#[]⟩
      ·cases h4 : beqS x.lo n.name.lo
       ·simp only [h1, h3, h4, Bool.or_false, Bool.true_or, Bool.and_false, Bool.false_eq_true, if_false] at hat
        simp [zZf.b13, zZf.r8, zZf.r9, zZf.r10, zZf.r11, zZf.r12, kr, kl, ki, k7, he, hlt, ha1, okR, hpu, d2, cn, okR0, okR1, okR2, h1, h3, h4, evPick]
        exact goal _ hat (by simpa using hw)
       ·simp only [h1, h3, h4, Bool.or_true, Bool.true_or, Bool.and_true, if_true] at hat
        simp [zZf.b13, zZf.r8, zZf.r9, zZf.r10, zZf.r11, zZf.r12, kr, kl, ki, k7, he, hlt, ha1, okR, hpu, d2, cn, okR0, okR1, okR2, h1, h3, h4, evPick, hat]
      ·simp only [h1, h3, Bool.true_or, Bool.or_true, Bool.and_true, if_true] at hat
       simp [zZf.b13, zZf.r8, zZf.r9, zZf.r10, zZf.r11, zZf.r12, kr, kl, ki, k7, he, hlt, ha1, okR, hpu, d2, cn, okR0, okR1, okR2, h1, h3, evPick, hat]
    ·have : i = l.length := by omega
     subst this
     rw [List.drop_length] at hat
     simp only [rulesV] at hat
     rw [hat]
     simp [zZf.b13, zZf.r8, zZf.r14, zZf.c, kl, ki, he]
   by_cases e12 : n.kind = 12
   ·have eb : (n.kind == 12) = true := by simp [e12]
    have hq : bitK n.kind = 10 := by simp [bitK, e12]
    rw [hq] at hB1 hcv
    simp [zZf.c, zZf.r0, zZf.r1, zZf.r2, zZf.r3, zZf.r4, zZf.r5, zZf.r7, g0, g1, g2, he, hcc, hcf, hb0, hb1, cK, hA, l1, hpN, c1, c2, eb, w10, hB1, hB2, hB3, okF0, okF1, hcv, evExt, ofCells]
    exact loop _ (by simp [he]) (by simp [he]) (by simp [he]) (by simp [he]) (by simp [he])
   ·have eb : (n.kind == 12) = false := by simpa using e12
    have hq : bitK n.kind = n.kind - 1 := by simp [bitK, e12]
    have hws : IntKind.u8.wrap (n.kind - 1) = n.kind - 1 := by rw [Ev.wrap8] <;> omega
    rw [hq] at hB1 hcv
    simp [zZf.c, zZf.r0, zZf.r1, zZf.r2, zZf.r3, zZf.r4, zZf.r5, zZf.r7, g0, g1, g2, he, hcc, hcf, hb0, hb1, cK, hA, l1, hpN, c1, c2, eb, hws, hB1, hB2, hB3, okF0, okF1, hcv, evExt, ofCells]
    exact loop _ (by simp [he]) (by simp [he]) (by simp [he]) (by simp [he]) (by simp [he])
 obtain ⟨h', hb⟩ := this
 exact zZQ (h := H) zZf.Φ rfl (args := [eF f, eFl t, .int .i64 h]) rfl hb rfl
end Go.Proofs.It
