/- Texts cut; numbers read. Numbers read. No conditions. -/
import Derived.Test.YtcfgiajpbjbdpaaGreatDoorScM
import Derived.Lib.AtoiAllCases
import Derived.Lib.Bytealg
set_option maxHeartbeats 16000000
set_option maxRecDepth 100000
set_option linter.unusedVariables false
set_option linter.unusedSimpArgs false
set_option linter.unusedSectionVars false
namespace Go.Proofs.Sc
open Go Go.Ev
theorem xZY (l : Bs) (b : UInt8) : Lib.indexByte l b = if b ∈ l then ((l.takeWhile (· != b)).length : Int) else -1 := by
 induction l with
 | nil => simp [Lib.indexByte]
 | cons x l ih =>
  by_cases hx : x = b
  ·subst hx; simp [Lib.indexByte]
  ·have h1 : (x == b) = false := by simpa using hx
   have h2 : (x != b) = true := by simpa using hx
   have h3 : ¬ b = x := fun e => hx e.symm
   rw [Lib.indexByte, h1, ih]
   by_cases hm : b ∈ l
   ·simp only [hm, h2, h3, if_true, List.takeWhile_cons, List.mem_cons, or_true, List.length_cons, Bool.false_eq_true, if_false]
    rw [if_neg (by simp)]; omega
   ·simp [hm, h2, h3]
theorem takeW_lt {l : Bs} {b : UInt8} (h : b ∈ l) : (l.takeWhile (· != b)).length < l.length := by
 induction l with
 | nil => cases h
 | cons x l ih =>
  by_cases hx : x = b
  ·subst hx; simp
  ·have h2 : (x != b) = true := by simpa using hx
   have := ih ((List.mem_cons.1 h).resolve_left fun e => hx e.symm)
   simp only [List.takeWhile_cons, h2, if_true, List.length_cons]; omega
theorem takeW_all {l : Bs} {b : UInt8} (h : b ∉ l) : l.takeWhile (· != b) = l := by
 induction l with
 | nil => rfl
 | cons x l ih =>
  have hx : x ≠ b := fun e => h (by simp [e])
  have h2 : (x != b) = true := by simpa using hx
  rw [List.takeWhile_cons, h2, if_pos rfl, ih fun e => h (by simp [e])]
theorem xZZ (l : Bs) (p : UInt8 → Bool) : l.take (l.takeWhile p).length = l.takeWhile p := by
 induction l with
 | nil => rfl
 | cons x l ih =>
  cases hx : p x <;> simp [List.takeWhile_cons, hx, ih]
theorem sidx_call (s : Bs) (b : UInt8) (hz : s.length < 2 ^ 40) (H : Heap) : callW Φ qZ2 [T s, T [b]] H = some (.int .i64 (if b ∈ s then ((s.takeWhile (· != b)).length : Int) else -1), H) := by
 refine prim2 qZ2.Φ ?_
 have h1 : (⟨[b].toArray⟩ : ByteArray).data.toList = [b] := rfl
 simp only [evPrim, h1, List.toList_toArray, xZY]
 simp [okV, fV_eq]
theorem sbyte_call (s : Bs) (b : UInt8) (H : Heap) : callW Φ qZW [T s, .int .u8 b.toNat] H = some (.int .i64 (if b ∈ s then ((s.takeWhile (· != b)).length : Int) else -1), H) := by
 refine prim2 qZW.Φ ?_
 have h1 : ((b.toNat : Int).toNat).toUInt8 = b := by simp
 simp only [evPrim, h1, List.toList_toArray, xZY]
 simp [okV, fV_eq]
def cutV (s : Bs) (b : UInt8) : V := .tup [T (s.takeWhile (· != b)), T (s.drop ((s.takeWhile (· != b)).length + 1)), .bool (decide (b ∈ s))]
theorem xZw (s : Bs) (b : UInt8) (hz : s.length < 2 ^ 40) (H : Heap) : callW Φ zZo [T s, T [b]] H = some (cutV s b, H) := by
 have : ∃ hh, evBodyW (callW Φ) zZo.c [T s, T [b]] [] = some (cutV s b, hh) := by
  refine wZg (Nat.le_of_ble_eq_true rfl) (fun env he h0 => ?_)
  have g0 := h0 0 (by simp)
  change eget env 0 = T s at g0
  have g1 := h0 1 (by simp)
  change eget env 1 = T [b] at g1
  clear h0
  simp [zZo.c] at he
  have hi := sidx_call s b hz []
  unfold cutV
  by_cases hm : b ∈ s
  ·have hlt := takeW_lt hm
   obtain ⟨n, hn⟩ : ∃ n, n = (s.takeWhile (· != b)).length := ⟨_, rfl⟩
   have htk := xZZ s (· != b)
   simp only [hm, if_true] at hi
   rw [← hn] at hi hlt htk
   have h1 := zYaC (h := []) (l := s) (k := .i64) (b := (n : Int)) (by omega) (by omega)
   have h2 := zYaw (h := []) (l := s) (k := .i64) (a := (n : Int) + 1) (by omega) (by omega)
   have e2 : ((n : Int) + 1).toNat = n + 1 := by omega
   rw [Int.toNat_natCast, htk] at h1
   rw [e2] at h2
   have wr := wrap64 (n := (n : Int) + 1) (by omega) (by omega)
   have hs1 : (⟨#[b]⟩ : ByteArray).size = 1 := rfl
   simp [zZo.c, zZo.r0, zZo.r1, zZo.r2, g0, g1, he, hi, hm]
   refine kDraw1 zZo.r3.ord ?_
   simp [zZo.r3, g0, g1, he, hi, h1, h2, hs1, wr, hm, ← hn]
  ·simp only [hm, if_false] at hi
   rw [takeW_all hm]
   simp [zZo.c, zZo.r0, zZo.r1, zZo.r2, zZo.r4, g0, g1, he, hi, hm]
 obtain ⟨h', hb⟩ := this
 exact qZ7 (h := H) zZo.Φ rfl (args := [T s, T [b]]) rfl hb rfl
theorem xZT (s : Bs) (b : UInt8) (hz : s.length < 2 ^ 40) (H : Heap) : callW Φ qZU [T s, T [b]] H = some (cutV s b, H) := by
 have : ∃ hh, evBodyW (callW Φ) qZU.c [T s, T [b]] [] = some (cutV s b, hh) := by
  refine wZg (Nat.le_of_ble_eq_true rfl) (fun env he h0 => ?_)
  have g0 := h0 0 (by simp)
  change eget env 0 = T s at g0
  have g1 := h0 1 (by simp)
  change eget env 1 = T [b] at g1
  clear h0
  simp [qZU.c] at he
  have hi := xZw s b hz []
  simp only [cutV] at hi ⊢
  simp [qZU.c, qZU.r0, qZU.r1, g0, g1, he, hi, evExt]
 obtain ⟨h', hb⟩ := this
 exact qZ7 (h := H) qZU.Φ rfl (args := [T s, T [b]]) rfl hb rfl
def pre (s p : Bs) : Bool := s.take p.length == p
theorem xZu (s p : Bs) (H : Heap) : callW Φ zZz [T s, T p] H = some (.bool (pre s p), H) := by
 have : ∃ hh, evBodyW (callW Φ) zZz.c [T s, T p] [] = some (.bool (pre s p), hh) := by
  refine wZg (Nat.le_of_ble_eq_true rfl) (fun env he h0 => ?_)
  have g0 := h0 0 (by simp)
  change eget env 0 = T s at g0
  have g1 := h0 1 (by simp)
  change eget env 1 = T p at g1
  clear h0
  simp [zZz.c] at he
  by_cases c : p.length ≤ s.length
  ·have h1 := zYaC (h := []) (l := s) (k := .i64) (b := (p.length : Int)) (by omega) (by omega)
   have c1 : (p.length : Int) ≤ (s.length : Int) := by omega
   rw [Int.toNat_natCast] at h1
   simp [zZz.c, zZz.r0, zZz.r1, g0, g1, he, vZm, c, c1, h1, T_beq, evPick, pre]
  ·have c1 : ¬ (p.length : Int) ≤ (s.length : Int) := by omega
   have hp : pre s p = false := by
    unfold pre
    rw [List.take_of_length_le (by omega)]
    simp only [beq_eq_false_iff_ne]
    exact fun e => c (by rw [e]; omega)
   simp [zZz.c, zZz.r0, zZz.r1, g0, g1, he, vZm, c, c1, evPick, hp]
 obtain ⟨h', hb⟩ := this
 exact qZ7 (h := H) zZz.Φ rfl (args := [T s, T p]) rfl hb rfl
def cutP (s p : Bs) : V := .tup [T (if pre s p then s.drop p.length else s), .bool (pre s p)]
theorem pre_len {s p : Bs} (h : pre s p = true) : p.length ≤ s.length := by
 unfold pre at h
 have := congrArg List.length (beq_iff_eq.1 h)
 rw [List.length_take] at this
 omega
theorem xZt (s p : Bs) (H : Heap) : callW Φ zZp [T s, T p] H = some (cutP s p, H) := by
 have : ∃ hh, evBodyW (callW Φ) zZp.c [T s, T p] [] = some (cutP s p, hh) := by
  refine wZg (Nat.le_of_ble_eq_true rfl) (fun env he h0 => ?_)
  have g0 := h0 0 (by simp)
  change eget env 0 = T s at g0
  have g1 := h0 1 (by simp)
  change eget env 1 = T p at g1
  clear h0
  simp [zZp.c] at he
  have hi := xZu s p []
  cases hp : pre s p
  ·simp [zZp.c, zZp.r0, zZp.r1, zZp.r2, zZp.r3, g0, g1, he, hi, hp, cutP]
  ·have hl := pre_len hp
   have h2 := zYaw (h := []) (l := s) (k := .i64) (a := (p.length : Int)) (by omega) (by omega)
   rw [Int.toNat_natCast] at h2
   simp [zZp.c, zZp.r0, zZp.r1, zZp.r2, zZp.r3, g0, g1, he, hi, hp, cutP, vZm, h2]
 obtain ⟨h', hb⟩ := this
 exact qZ7 (h := H) zZp.Φ rfl (args := [T s, T p]) rfl hb rfl
theorem xZs (s p : Bs) (H : Heap) : callW Φ qZh [T s, T p] H = some (cutP s p, H) := by
 have : ∃ hh, evBodyW (callW Φ) qZh.c [T s, T p] [] = some (cutP s p, hh) := by
  refine wZg (Nat.le_of_ble_eq_true rfl) (fun env he h0 => ?_)
  have g0 := h0 0 (by simp)
  change eget env 0 = T s at g0
  have g1 := h0 1 (by simp)
  change eget env 1 = T p at g1
  clear h0
  simp [qZh.c] at he
  have hi := xZt s p []
  simp only [cutP] at hi ⊢
  simp [qZh.c, qZh.r0, qZh.r1, g0, g1, he, hi, evExt]
 obtain ⟨h', hb⟩ := this
 exact qZ7 (h := H) qZh.Φ rfl (args := [T s, T p]) rfl hb rfl
theorem xZD (s : Bs) (b : UInt8) (H : Heap) : callW Φ qZi [T s, .int .u8 b.toNat] H = some (.int .i64 (if b ∈ s then ((s.takeWhile (· != b)).length : Int) else -1), H) := by
 have : ∃ hh, evBodyW (callW Φ) qZi.c [T s, .int .u8 b.toNat] [] = some (.int .i64 (if b ∈ s then ((s.takeWhile (· != b)).length : Int) else -1), hh) := by
  refine wZg (Nat.le_of_ble_eq_true rfl) (fun env he h0 => ?_)
  have g0 := h0 0 (by simp)
  change eget env 0 = T s at g0
  have g1 := h0 1 (by simp)
  change eget env 1 = .int .u8 b.toNat at g1
  clear h0
  simp [qZi.c] at he
  have hi := sbyte_call s b []
  simp [qZi.c, qZi.r0, qZi.r1, g0, g1, he, hi]
 obtain ⟨h', hb⟩ := this
 exact qZ7 (h := H) qZi.Φ rfl (args := [T s, .int .u8 b.toNat]) rfl hb rfl
/-! ### Numbers -/
theorem digs_dec : ∀ (l : Bs) (acc : Nat), (∀ b ∈ l, dig b = true) → (Lib.parseUint10 acc l = .range ∨ Lib.parseUint10 acc l = .ok (l.foldl (fun n b => 10 * n + (b.toNat - 48)) acc)) ∧ (l.foldl (fun n b => 10 * n + (b.toNat - 48)) acc < 18446744073709551616 → Lib.parseUint10 acc l = .ok (l.foldl (fun n b => 10 * n + (b.toNat - 48)) acc)) ∧ acc ≤ l.foldl (fun n b => 10 * n + (b.toNat - 48)) acc
 | [], acc, _ => ⟨.inr rfl, fun _ => rfl, Nat.le_refl _⟩
 | b :: l, acc, h => by
  have hb := h b (by simp)
  simp only [dig, Bool.and_eq_true, decide_eq_true_eq] at hb
  obtain ⟨h1, h2, h3⟩ := digs_dec l (10 * acc + (b.toNat - 48)) fun x hx => h x (by simp [hx])
  simp only [Lib.parseUint10, List.foldl_cons]
  rw [if_pos hb]
  have e : acc * 10 + (b.toNat - 48) = 10 * acc + (b.toNat - 48) := by omega
  rw [e]
  refine ⟨?_, fun hl => ?_, by omega⟩
  ·by_cases c1 : 1844674407370955162 ≤ acc
   ·left; rw [if_pos c1]
   ·rw [if_neg c1]
    by_cases c2 : 18446744073709551616 ≤ 10 * acc + (b.toNat - 48)
    ·left; rw [if_pos c2]
    ·rw [if_neg c2]; exact h1
  ·rw [if_neg (by omega), if_neg (by omega)]
   exact h2 hl
def endOf : Option Int → Lib.NumEnd Int → Prop
 | some v, e => e = .ok v
 | none, e => ∀ v, e ≠ .ok v
theorem mag_dec {l : Bs} (hl : l ≠ []) (h : ∀ b ∈ l, dig b = true) : (Lib.parseMag l = .range ∧ 18446744073709551616 ≤ valD l) ∨ Lib.parseMag l = .ok (valD l) := by
 unfold Lib.parseMag valD
 rw [if_neg hl]
 obtain ⟨h1, h2, _⟩ := digs_dec l 0 h
 rcases h1 with h1 | h1
 ·refine .inl ⟨h1, Nat.le_of_not_lt fun hlt => ?_⟩
  rw [h2 hlt] at h1
  cases h1
 ·exact .inr h1
theorem atoi_all {t : Bs} (ht : ∀ b r, t = b :: r → (b = 45 ∧ ∀ x ∈ r, dig x = true) ∨ (∀ x ∈ t, dig x = true)) : endOf (atoi t) (Lib.atoiAll t) := by
 cases t with
 | nil => intro v h; cases h
 | cons b r =>
  rcases ht b r rfl with ⟨rfl, hd⟩ | hd
  ·rw [Lib.atoiAll_minus]
   simp only [atoi, if_true]
   by_cases hr : r = []
   ·subst hr
    simp only [if_true, endOf]
    intro v h
    simp [Lib.parseMag, Lib.signed] at h
   ·rw [if_neg hr]
    rcases mag_dec hr hd with ⟨h1, h2⟩ | h1
    ·rw [h1, if_neg (by omega)]
     intro v h
     cases h
    ·rw [h1]
     simp only [Lib.signed]
     by_cases c : valD r ≤ 9223372036854775808
     ·rw [if_pos c, if_neg (by omega)]; rfl
     ·rw [if_neg c, if_pos (by omega)]; intro v h; cases h
  ·have hb := hd b (by simp)
   simp only [dig, Bool.and_eq_true, decide_eq_true_eq] at hb
   have hb45 : b ≠ 45 := fun e => by subst e; exact absurd hb.1 (by decide)
   rw [Lib.atoiAll_plain b r (by omega) (by omega)]
   simp only [atoi, if_neg hb45]
   rcases mag_dec (l := b :: r) (by simp) hd with ⟨h1, h2⟩ | h1
   ·rw [h1, if_neg (by omega)]
    intro v h
    cases h
   ·rw [h1]
    simp only [Lib.signless]
    by_cases c : valD (b :: r) ≤ 9223372036854775807
    ·rw [if_pos c, if_neg (by omega)]; rfl
    ·rw [if_neg c, if_pos (by omega)]; intro v h; cases h
theorem zYar {p : UInt8 → Bool} : ∀ (l : Bs), ∀ x ∈ l.takeWhile p, p x = true
 | [], x, h => by cases h
 | y :: l, x, h => by
  cases hy : p y
  ·simp [List.takeWhile_cons, hy] at h
  ·simp only [List.takeWhile_cons, hy, if_true, List.mem_cons] at h
   rcases h with rfl | h
   ·exact hy
   ·exact zYar l x h
theorem numPre_dig (s : Bs) : ∀ b r, numPre s = b :: r → (b = 45 ∧ ∀ x ∈ r, dig x = true) ∨ (∀ x ∈ numPre s, dig x = true) := by
 cases s with
 | nil => intro b r h; cases h
 | cons x s =>
  intro b r h
  by_cases hx : x = 45
  ·simp only [numPre, hx, if_true] at h
   left
   injection h with h1 h2
   exact ⟨h1.symm, by rw [← h2]; exact zYar s⟩
  ·right
   simp only [numPre, if_neg hx]
   exact zYar _
theorem atoi_call (s : Bs) (hz : s.length < 2 ^ 40) (hp : (numPre s).length ≤ s.length) (H : Heap) :
  (∃ v, atoi (numPre s) = some v ∧ callW Φ wZq [T (numPre s)] H = some (.tup [.int .i64 v, .nili], H)) ∨
  (atoi (numPre s) = none ∧ ∃ v, ok64 v ∧ callW Φ wZq [T (numPre s)] H = some (.tup [.int .i64 v, .ifc 165 (.iptr [])], H)) := by
 have ha := atoi_all (numPre_dig s)
 have hs : (⟨(numPre s).toArray⟩ : ByteArray).size ≤ maxA := by rw [vZm]; unfold maxA; omega
 cases hm : atoi (numPre s) with
 | some v =>
  rw [hm] at ha
  refine .inl ⟨v, rfl, prim1 wZq.Φ ?_⟩
  simp only [evPrim, hs, if_true, List.toList_toArray, show Lib.atoiAll (numPre s) = .ok v from ha]
  simp [okV, fV_eq]
 | none =>
  rw [hm] at ha
  have ha : ∀ v, Lib.atoiAll (numPre s) ≠ .ok v := ha
  refine .inr ⟨rfl, ?_⟩
  cases he : Lib.atoiAll (numPre s) with
  | ok v => exact absurd he (ha v)
  | range =>
   refine ⟨Lib.atoiSat (numPre s), ⟨(Lib.atoiSat_bounds _).1, by have := (Lib.atoiSat_bounds (numPre s)).2; omega⟩, prim1 wZq.Φ ?_⟩
   simp only [evPrim, hs, if_true, List.toList_toArray, he]
   simp [okV, fV_eq]
  | «syntax» =>
   refine ⟨0, ⟨by omega, by omega⟩, prim1 wZq.Φ ?_⟩
   simp only [evPrim, hs, if_true, List.toList_toArray, he]
   simp [okV, fV_eq]
def n1 (o : Option (Int × Bs)) : Int := (o.map (·.1)).getD 0
def n2 {α : Type} (o : Option (α × Bs)) : Bs := (o.map (·.2)).getD []
def NI (s : Bs) (i : Nat) : Prop := i ≠ 0 → numPre s = s.take i ++ (s.drop i).takeWhile dig
theorem dig_45 {b : UInt8} (h : dig b = true) : b ≠ 45 := fun e => by subst e; exact absurd h (by decide)
theorem NI.next {s : Bs} {i : Nat} {b : UInt8} (h : NI s i) (hb : s[i]? = some b) (hc : dig b = true ∨ (i = 0 ∧ b = 45)) : NI s (i + 1) := by
 intro _
 have hlt := (List.getElem?_eq_some_iff.1 hb).1
 by_cases hi : i = 0
 ·subst hi
  cases s with
  | nil => simp at hlt
  | cons x s =>
   simp only [List.getElem?_cons_zero, Option.some.injEq] at hb
   subst hb
   rcases hc with hc | ⟨_, rfl⟩
   ·simp only [numPre, if_neg (dig_45 hc), List.takeWhile_cons, hc, if_true]; rfl
   ·simp [numPre]
 ·have hc : dig b = true := by rcases hc with hc | ⟨h0, _⟩; exact hc; exact absurd h0 hi
  have hg : s[i] = b := (List.getElem?_eq_some_iff.1 hb).2
  rw [h hi, List.take_add_one, hb, List.drop_eq_getElem_cons hlt, hg, List.takeWhile_cons, hc, if_pos rfl]
  simp
theorem NI.stop {s : Bs} {i : Nat} (h : NI s i) (hi : i ≤ s.length) (hc : ∀ b, s[i]? = some b → dig b = false ∧ ¬ (i = 0 ∧ b = 45)) : numPre s = s.take i := by
 by_cases h0 : i = 0
 ·subst h0
  cases s with
  | nil => rfl
  | cons x s =>
   obtain ⟨h1, h2⟩ := hc x rfl
   have h3 : x ≠ 45 := fun e => h2 ⟨rfl, e⟩
   simp [numPre, h3, List.takeWhile_cons, h1]
 ·rw [h h0]
  by_cases hlt : i < s.length
  ·have hb := List.getElem?_eq_getElem hlt
   obtain ⟨h1, _⟩ := hc _ hb
   rw [List.drop_eq_getElem_cons hlt, List.takeWhile_cons, h1]
   simp
  ·rw [List.drop_eq_nil_of_le (by omega)]; simp
open Go Go.Ev
theorem xZy (s : Bs) (hz : s.length < 2 ^ 40) (H : Heap) : callW Φ zZO [T s] H = some (.tup [.int .i64 (n1 (number s)), T (n2 (number s)), .bool (number s).isSome], H) := by
 have : ∃ hh, evBodyW (callW Φ) zZO.c [T s] [] = some (.tup [.int .i64 (n1 (number s)), T (n2 (number s)), .bool (number s).isSome], hh) := by
  refine wZg (Nat.le_of_ble_eq_true rfl) (fun env he h0 => ?_)
  have g0 := h0 0 (by simp)
  change eget env 0 = T s at g0
  clear h0
  simp [zZO.c] at he
  have fin : ∀ (env : List V) (i : Nat), env.length = 57 → eget env 0 = T s → eget env 5 = .int .i64 i → i ≤ s.length → numPre s = s.take i →
    WK (callW Φ) none (FinV [.tmp 2, .tmp 3, .tmp 4] (.tup [.int .i64 (n1 (number s)), T (n2 (number s)), .bool (number s).isSome])) [It.o zZO.r5, It.c (.seq (.seq (.draw zZO.r6 [[], [0], [1], [2], [3, 2, 2], [2], [2], [5, 6, 2], [4, 7, 2], [2, 8]] [0, 2, 3, 5, 6, 7, 8, 9]) (.cond (.t 52) (xS zZO.r7 .ret) .skip)) (.seq (.draw zZO.r8 [[], [], [], [1, 2], [0, 0], [3, 4, 0, 1, 2, 3, 4], [5, 0, 1, 2, 3, 4, 5]] [0, 1, 2, 3, 4, 5, 6]) .ret))] { env := env, marks := [], heap := [] } := by
   intro env i he k0 k5 hi hp
   have h1 := zYaC (h := []) (l := s) (k := .i64) (b := (i : Int)) (by omega) (by omega)
   have h2 := zYaw (h := []) (l := s) (k := .i64) (a := (i : Int)) (by omega) (by omega)
   rw [Int.toNat_natCast] at h1 h2
   rw [← hp] at h1
   have hlen : (numPre s).length = i := by rw [hp, List.length_take]; omega
   have key : ∀ (env : List V) (v : Int) (e : V), env.length = 57 → eget env 0 = T s → eget env 5 = .int .i64 i → eget env 6 = .int .i64 v → eget env 7 = e → ok64 v → (e = .nili ∧ atoi (numPre s) = some v ∨ e = .ifc 165 (.iptr []) ∧ atoi (numPre s) = none) →
     WK (callW Φ) none (FinV [.tmp 2, .tmp 3, .tmp 4] (.tup [.int .i64 (n1 (number s)), T (n2 (number s)), .bool (number s).isSome])) [It.c (.draw zZO.r6 [[], [0], [1], [2], [3, 2, 2], [2], [2], [5, 6, 2], [4, 7, 2], [2, 8]] [0, 2, 3, 5, 6, 7, 8, 9]), It.c (.cond (.t 52) (xS zZO.r7 .ret) .skip), It.c (.seq (.draw zZO.r8 [[], [], [], [1, 2], [0, 0], [3, 4, 0, 1, 2, 3, 4], [5, 0, 1, 2, 3, 4, 5]] [0, 1, 2, 3, 4, 5, 6]) .ret)] { env := env, marks := [], heap := [] } := by
    intro env v e he k0 k5 k6 k7 hok hv
    have hit := zYaG hok []
    refine kDrawW zZO.r6.ord ?_
    rcases hv with ⟨rfl, hv⟩ | ⟨rfl, hv⟩
    ·cases hq : (itoa v == numPre s)
     ·have hq2 : itoa v ≠ numPre s := by simpa using hq
      have hnum : number s = none := by simp only [number, hv, hq2, if_false]
      simp [zZO.r6, List.filterMap_cons, zZO.r7, k0, k5, k6, k7, he, hit, h1, evInil, evPick, T_beq, hq, hnum, n1, n2]
      simp only [xZ7, xZ2, List.cons_append, List.nil_append]
      exact xZ6 _ rfl rfl rfl rfl
     ·have hq2 : itoa v = numPre s := by simpa using hq
      have hnum : number s = some (v, s.drop i) := by simp only [number, hv, hq2, if_true, hlen]
      simp [zZO.r6, List.filterMap_cons, k0, k5, k6, k7, he, hit, h1, evInil, evPick, T_beq, hq]
      refine ⟨?_, ?_⟩
      ·simp only [xZ7, xZ2, List.cons_append, List.nil_append]
       exact xZ6 _ rfl rfl rfl rfl
      ·refine kDraw1 zZO.r8.ord ?_
       simp [zZO.r8, k0, k5, k6, he, h2, hnum, n1, n2]
    ·have hnum : number s = none := by simp only [number, hv]
     simp [zZO.r6, List.filterMap_cons, zZO.r7, k0, k5, k6, k7, he, hit, h1, evInil, evPick, hnum, n1, n2]
     simp only [xZ7, xZ2, List.cons_append, List.nil_append]
     exact xZ6 _ rfl rfl rfl rfl
   rcases atoi_call s hz (by omega) [] with ⟨v, hv, hc⟩ | ⟨hv, v, hok, hc⟩
   ·simp [zZO.r5, k0, k5, he, h1, hc, evExt, -FinV]
    exact key _ v _ (by simp [he]) (by simp [k0]) (by simp [k5]) (by simp [he]) (by simp [he]) (atoi_ok hv) (.inl ⟨rfl, hv⟩)
   ·simp [zZO.r5, k0, k5, he, h1, hc, evExt, -FinV]
    exact key _ v _ (by simp [he]) (by simp [k0]) (by simp [k5]) (by simp [he]) (by simp [he]) hok (.inr ⟨rfl, hv⟩)
  simp [zZO.c, zZO.r0, zZO.r1, g0, he, -FinV]
  obtain ⟨I, hI⟩ : ∃ I : Nat → St → Prop, I = fun m st => ∃ (i : Nat), m = s.length - i ∧ i ≤ s.length ∧ eget st.env 0 = T s ∧ eget st.env 5 = .int .i64 i ∧ st.env.length = 57 ∧ st.marks = [] ∧ st.heap = [] ∧ NI s i := ⟨_, rfl⟩
  refine kLoop I s.length (by rw [hI]; exact ⟨0, rfl, by omega, by simpa using g0, by simp [he], by simpa using he, rfl, rfl, fun h => absurd rfl h⟩) ?_
  rintro m ⟨env, mk, Hh⟩ hst
  rw [hI] at hst
  obtain ⟨i, rfl, hi, k0, k5, hl, hm, hh, hn⟩ := hst
  simp only at k0 k5 hl hm hh
  obtain rfl := hm
  obtain rfl := hh
  by_cases c : i < s.length
  ·obtain ⟨b, hb⟩ : ∃ b, s[i]? = some b := ⟨_, List.getElem?_eq_getElem c⟩
   have ix := idx_T (h := []) (k := .i64) (n := (i : Int)) (by omega) (by simpa using hb)
   have wr := wrap64 (n := (i : Int) + 1) (by omega) (by omega)
   have go : dig b = true ∨ (i = 0 ∧ b = 45) → s.length - (i + 1) < s.length - i ∧ NI s (i + 1) := fun h => ⟨by omega, hn.next hb h⟩
   have i0 : ∀ x, x = decide (i = 0) → ((i : Int) == 0) = x := fun x hx => by subst hx; by_cases h : i = 0 <;> simp [h]
   have b45 : ∀ x, x = decide (b = 45) → ((b.toNat : Int) == 45) = x := fun x hx => by
    subst hx
    by_cases h : b = 45
    ·subst h; rfl
    ·have : b.toNat ≠ 45 := fun e => h (UInt8.toNat_inj.1 e)
     simp [h]; omega
   by_cases d1 : 48 ≤ b.toNat
   ·have e1 : (48 : Int) ≤ (b.toNat : Int) := by omega
    by_cases d2 : b.toNat ≤ 57
    ·have e2 : (b.toNat : Int) ≤ 57 := by omega
     have hd : dig b = true := by simp [dig, d1, d2]
     simp only [zZO.b4]
     simp [zZO.r2, zZO.r3, k0, k5, hl, vZm, c, ix, d1, d2, e1, e2, evPick, wr]
     refine ⟨s.length - (i + 1), by omega, ?_⟩
     rw [hI]
     exact ⟨i + 1, rfl, by omega, by simp [k0], by simp [hl], by simp [hl], rfl, rfl, hn.next hb (.inl hd)⟩
    ·have e2 : ¬ (b.toNat : Int) ≤ 57 := by omega
     have h45 : b ≠ 45 := fun e => by subst e; exact absurd d1 (by decide)
     have hd : dig b = false := by simp [dig, d2]
     have hp := hn.stop hi (fun b2 hb2 => by rw [hb] at hb2; cases hb2; exact ⟨hd, fun e => h45 e.2⟩)
     simp only [zZO.b4]
     have b45' := b45 false (by simp [h45])
     by_cases i0' : i = 0
     ·have i1 := i0 true (by simp [i0'])
      simp [zZO.r2, k0, k5, hl, vZm, c, ix, d1, d2, e1, e2, evPick, i1, b45', -FinV]
      exact fin _ i (by simp [hl]) (by simp [k0]) (by simp [k5]) hi hp
     ·have i1 := i0 false (by simp [i0'])
      simp [zZO.r2, k0, k5, hl, vZm, c, ix, d1, d2, e1, e2, evPick, i1, i0', b45', -FinV]
      exact fin _ i (by simp [hl]) (by simp [k0]) (by simp [k5]) hi hp
   ·have e1 : ¬ (48 : Int) ≤ (b.toNat : Int) := by omega
    have hd : dig b = false := by simp [dig, d1]
    simp only [zZO.b4]
    by_cases i0' : i = 0
    ·have i1 := i0 true (by simp [i0'])
     by_cases h45 : b = 45
     ·have b45' := b45 true (by simp [h45])
      simp [zZO.r2, zZO.r3, k0, k5, hl, vZm, c, ix, d1, e1, evPick, wr, i1, b45']
      refine ⟨s.length - (i + 1), by omega, ?_⟩
      rw [hI]
      exact ⟨i + 1, rfl, by omega, by simp [k0], by simp [hl], by simp [hl], rfl, rfl, hn.next hb (.inr ⟨i0', h45⟩)⟩
     ·have hp := hn.stop hi (fun b2 hb2 => by rw [hb] at hb2; cases hb2; exact ⟨hd, fun e => h45 e.2⟩)
      have b45' := b45 false (by simp [h45])
      simp [zZO.r2, k0, k5, hl, vZm, c, ix, d1, e1, evPick, i1, b45', -FinV]
      exact fin _ i (by simp [hl]) (by simp [k0]) (by simp [k5]) hi hp
    ·have hp := hn.stop hi (fun b2 hb2 => by rw [hb] at hb2; cases hb2; exact ⟨hd, fun e => i0' e.1⟩)
     have i1 := i0 false (by simp [i0'])
     simp [zZO.r2, k0, k5, hl, vZm, c, ix, d1, e1, evPick, i1, i0', -FinV]
     exact fin _ i (by simp [hl]) (by simp [k0]) (by simp [k5]) hi hp
  ·have hp := hn.stop hi (fun b hb => absurd (List.getElem?_eq_some_iff.1 hb).1 c)
   simp only [zZO.b4]
   simp [zZO.r2, k0, k5, hl, vZm, c, evPick, -FinV]
   exact fin _ i (by simp [hl]) (by simp [k0]) (by simp [k5]) hi hp
 obtain ⟨h', hb⟩ := this
 exact qZ7 (h := H) zZO.Φ rfl (args := [T s]) rfl hb rfl
end Go.Proofs.Sc
