/- Fields read into a command in the heap. Lists read. No conditions. -/
import Derived.Test.YtcfgiajpbjbdpaaGreatDoorScQc
set_option maxHeartbeats 16000000
set_option maxRecDepth 100000
set_option linter.unusedVariables false
set_option linter.unusedSimpArgs false
set_option linter.unusedSectionVars false
namespace Go.Proofs.Sc
open Go Go.Ev
def Keep (p : Nat) (H H' : Heap) : Prop := H.length ≤ H'.length ∧ ∀ j, j < H.length → j ≠ p → H'[j]? = H[j]?
theorem Keep.refl (p : Nat) (H : Heap) : Keep p H H := ⟨Nat.le_refl _, fun _ _ _ => rfl⟩
theorem Keep.trans {p : Nat} {A B C : Heap} (h1 : Keep p A B) (h2 : Keep p B C) : Keep p A C := ⟨Nat.le_trans h1.1 h2.1, fun j hj hp => by rw [h2.2 j (Nat.lt_of_lt_of_le hj h1.1) hp, h1.2 j hj hp]⟩
theorem Keep.set (p : Nat) (H : Heap) (o : Ob) : Keep p H (H.set p o) := ⟨by simp, fun j hj hp => by rw [List.getElem?_set_ne (fun e => hp e.symm)]⟩
theorem Keep.push (p : Nat) (H E : Heap) : Keep p H (H ++ E) := ⟨by simp, fun j hj _ => List.getElem?_append_left hj⟩
theorem pre0 (c : UInt8) (p : Bs) : pre [] (c :: p) = false := by simp [pre]
theorem pre1 (b c : UInt8) (r : Bs) : pre (b :: r) [c] = (b == c) := by simp [pre]
theorem cut0 (c : UInt8) (H : Heap) : callW Φ qZh [T [], .str ⟨#[c]⟩] H = some (.tup [T [], .bool false], H) := by
 have h := xZs [] [c] H
 simp only [cutP, pre0] at h
 exact h
theorem cut1 (b c : UInt8) (r : Bs) (H : Heap) : callW Φ qZh [T (b :: r), .str ⟨#[c]⟩] H = some (.tup [T (if b = c then r else b :: r), .bool (decide (b = c))], H) := by
 have h := xZs (b :: r) [c] H
 simp only [cutP, pre1] at h
 rw [show callW Φ qZh [T (b :: r), .str ⟨#[c]⟩] H = _ from h]
 by_cases e : b = c <;> simp [e]
theorem xZR (H H2 : Heap) (p off b : Nat) (g : V) (s : Bs) (hz : s.length < 2 ^ 40) (hb : cellsAt H (.ptr b 0) = some [g]) (hg : callW Φ g [.ptr p 0] H = some (.ptr p off, H)) (hs : evStoreV H 1 (.ptr p off) (.int .i64 (n1 (number s))) = some (.non, H2)) : callW Φ (.fn (.func qZF.k) [] [.ptr b 0]) [.ptr p 0, T s] H = some (.tup [T (n2 (number s)), .bool (number s).isSome], H2) := by
 obtain ⟨P, hP⟩ : ∃ P : V → Heap → Prop, P = fun r h' => r = .tup [T (n2 (number s)), .bool (number s).isSome] ∧ h' = H2 := ⟨_, rfl⟩
 suffices hgo : ∃ r h', callW Φ (.fn (.func qZF.k) [] [.ptr b 0]) [.ptr p 0, T s] H = some (r, h') ∧ P r h' by
  obtain ⟨r, h', h1, h2⟩ := hgo
  rw [hP] at h2
  obtain ⟨rfl, rfl⟩ := h2
  exact h1
 have hPf : P (.tup [T (n2 (number s)), .bool (number s).isSome]) (H2) := by rw [hP]; exact ⟨rfl, rfl⟩
 clear hP
 refine kZY qZF.Φ rfl (Nat.le_of_ble_eq_true rfl) (fun env he h0 => ?_)
 have g0 := h0 0 (by simp)
 change eget env 0 = .ptr p 0 at g0
 have g1 := h0 1 (by simp)
 change eget env 1 = T s at g1
 have g2 := h0 2 (by simp)
 change eget env 2 = .ptr b 0 at g2
 clear h0
 simp [qZF.c] at he
 have hn := fun H => xZy s hz H
 simp [qZF.c, qZF.r0, qZF.r1, qZF.r2, g0, g1, g2, he, hb, hg, hn, evExt, evNilchk, hs, hPf]
theorem q120 : (((120 : UInt8).toNat : Nat) : Int) = 120 := rfl
theorem q117 : (((117 : UInt8).toNat : Nat) : Int) = 117 := rfl
theorem hexv_lt : ∀ (k : Nat) (r : Bs) (u x : Nat), hexv k r u = some x → x < (u + 1) * 16 ^ k
 | 0, r, u, x, h => by simp only [hexv] at h; injection h with h; omega
 | k + 1, [], u, x, h => by cases h
 | k + 1, b :: r, u, x, h => by
  simp only [hexv] at h
  cases hb : hd b with
  | none => rw [hb] at h; cases h
  | some d =>
   rw [hb] at h
   have := hexv_lt k r _ x h
   have hd16 := hd_lt hb
   have e : (16 * u + d + 1) * 16 ^ k ≤ (16 * (u + 1)) * 16 ^ k := Nat.mul_le_mul_right _ (by omega)
   have e2 : (u + 1) * 16 ^ (k + 1) = (16 * (u + 1)) * 16 ^ k := by rw [Nat.pow_succ, Nat.mul_comm (16 ^ k) 16, ← Nat.mul_assoc, Nat.mul_comm (u + 1) 16]
   omega
theorem unq_lt {k : Nat} {y : UInt8} {B : Nat} (hB : 256 ≤ B) (hk : 16 ^ k ≤ B) : ∀ (n : Nat) (s : Bs) (out l : List Nat) (r : Bs), s.length ≤ n → (∀ u ∈ out, u < B) → unq k y s out = some (l, r) → (∀ u ∈ l, u < B) ∧ l.length + r.length ≤ out.length + s.length
 | n, [], out, l, r, hn, ho, h => by rw [unq_end] at h; cases h
 | 0, b :: s, out, l, r, hn, ho, h => by simp at hn
 | n + 1, b :: s, out, l, r, hn, ho, h => by
  have more : ∀ u, u < B → ∀ x ∈ out ++ [u], x < B := fun u hu x hx => by
   rcases List.mem_append.1 hx with hx | hx
   ·exact ho x hx
   ·rw [List.mem_singleton.1 hx]; exact hu
  have hb := b.toNat_lt
  simp only [List.length_cons] at hn
  by_cases c1 : b = 34
  ·rw [c1, zYaN] at h
   injection h with h; injection h with h1 h2
   rw [← h1, ← h2]
   exact ⟨ho, by simp⟩
  cases c2 : bare b.toNat
  case true =>
   rw [unq_bare c2] at h
   obtain ⟨h1, h2⟩ := unq_lt hB hk n s _ l r (by omega) (more _ (by omega)) h
   simp at h2 ⊢
   exact ⟨h1, by omega⟩
  by_cases c3 : b = 92
  case neg => rw [unq_bad c1 c2 c3] at h; cases h
  cases s with
  | nil => rw [c3, zYaO] at h; cases h
  | cons e s =>
   have he := e.toNat_lt
   simp only [List.length_cons] at hn
   by_cases c4 : e = 34 ∨ e = 92
   ·rw [c3, unq_esc c4] at h
    obtain ⟨h1, h2⟩ := unq_lt hB hk n s _ l r (by omega) (more _ (by omega)) h
    simp at h2 ⊢
    exact ⟨h1, by omega⟩
   by_cases c5 : e = y
   case neg => rw [c3, unq_not c4 c5] at h; cases h
   cases c6 : hexv k s 0 with
   | none => rw [c3, c5, zYaD (c5 ▸ c4) c6] at h; cases h
   | some u =>
    rw [c3, c5, unq_hexs (c5 ▸ c4) c6] at h
    cases c7 : shown u
    case true => rw [c7] at h; cases h
    rw [c7] at h
    simp only [Bool.false_eq_true, if_false] at h
    have hu := hexv_lt k s 0 u c6
    obtain ⟨h1, h2⟩ := unq_lt hB hk n (s.drop k) _ l r (by simp; omega) (more _ (by omega)) h
    simp at h2 ⊢
    exact ⟨h1, by omega⟩
theorem xZS {k : Nat} {y : UInt8} {B : Nat} (hB : 256 ≤ B) (hk : 16 ^ k ≤ B) {s : Bs} {l : List Nat} {r : Bs} (h : unquote k y s = some (l, r)) : (∀ u ∈ l, u < B) ∧ l.length + r.length + 1 ≤ s.length := by
 cases s with
 | nil => cases h
 | cons b s =>
  simp only [unquote] at h
  split at h
  ·have := unq_lt hB hk _ s [] l r (Nat.le_refl _) (fun u hu => by cases hu) h
   simp only [List.length_cons, List.length_nil] at this ⊢
   exact ⟨this.1, by omega⟩
  ·cases h
theorem u1_lt {k : Nat} {y : UInt8} {B : Nat} (hB : 256 ≤ B) (hk : 16 ^ k ≤ B) (s : Bs) : (∀ u ∈ u1 (unquote k y s), u < B) ∧ (u1 (unquote k y s)).length ≤ s.length := by
 cases h : unquote k y s with
 | none => exact ⟨fun u hu => by simp [u1] at hu, by simp [u1]⟩
 | some p =>
  have := xZS hB hk (show unquote k y s = some (p.1, p.2) from h)
  exact ⟨this.1, by show p.1.length ≤ _; omega⟩
theorem xZO (H H2 : Heap) (p off b : Nat) (g : V) (s : Bs) (hz : s.length < 2 ^ 40) (hb : cellsAt H (.ptr b 0) = some [g]) (hg : callW Φ g [.ptr p 0] H = some (.ptr p off, H)) (hs : evStoreV H 1 (.ptr p off) (T (narrow (u1 (unquote 2 120 s)))) = some (.non, H2)) : callW Φ (.fn (.func qZr.k) [] [.ptr b 0]) [.ptr p 0, T s] H = some (.tup [T (n2 (unquote 2 120 s)), .bool (unquote 2 120 s).isSome], H2) := by
 obtain ⟨P, hP⟩ : ∃ P : V → Heap → Prop, P = fun r h' => r = .tup [T (n2 (unquote 2 120 s)), .bool (unquote 2 120 s).isSome] ∧ h' = H2 := ⟨_, rfl⟩
 suffices hgo : ∃ r h', callW Φ (.fn (.func qZr.k) [] [.ptr b 0]) [.ptr p 0, T s] H = some (r, h') ∧ P r h' by
  obtain ⟨r, h', h1, h2⟩ := hgo
  rw [hP] at h2
  obtain ⟨rfl, rfl⟩ := h2
  exact h1
 have hPf : P (.tup [T (n2 (unquote 2 120 s)), .bool (unquote 2 120 s).isSome]) (H2) := by rw [hP]; exact ⟨rfl, rfl⟩
 clear hP
 refine kZY qZr.Φ rfl (Nat.le_of_ble_eq_true rfl) (fun env he h0 => ?_)
 have g0 := h0 0 (by simp)
 change eget env 0 = .ptr p 0 at g0
 have g1 := h0 1 (by simp)
 change eget env 1 = T s at g1
 have g2 := h0 2 (by simp)
 change eget env 2 = .ptr b 0 at g2
 clear h0
 simp [qZr.c] at he
 have hn := fun H => xZv 2 120 (by omega) (by decide) s hz H
 have e2 : (((2 : Nat)) : Int) = 2 := rfl
 simp only [q120, e2] at hn
 have hl := u1_lt (k := 2) (y := 120) (B := 256) (by omega) (by decide) s
 have hw := fun H => zYab (u1 (unquote 2 120 s)) (by omega) hl.1 H
 have hc := xZq (H := H) (v := .arr ((narrow (u1 (unquote 2 120 s))).map cB)) (o := none) (l := narrow (u1 (unquote 2 120 s)))
 have hc2 : evConv H .bytesStr (.arr ((narrow (u1 (unquote 2 120 s))).map cB)) = some (T (narrow (u1 (unquote 2 120 s))), H) := by
  simp [evConv, bytesIn, elemsOf, zYaE, okV]
 simp [qZr.c, qZr.r0, qZr.r1, qZr.r2, qZr.r3, g0, g1, g2, he, hb, hg, hn, hw, hc2, evExt, evNilchk, hs, hPf]
theorem xZJ (H H2 : Heap) (p : Nat) (s : Bs) (hz : s.length < 2 ^ 40) (hs : evStoreV H 1 (.ptr p 8) (.arr ((u1 (unquote 4 117 s)).map cU)) = some (.non, H2)) : callW Φ (.fn (.func qZe.k) [] []) [.ptr p 0, T s] H = some (.tup [T (n2 (unquote 4 117 s)), .bool (unquote 4 117 s).isSome], H2) := by
 obtain ⟨P, hP⟩ : ∃ P : V → Heap → Prop, P = fun r h' => r = .tup [T (n2 (unquote 4 117 s)), .bool (unquote 4 117 s).isSome] ∧ h' = H2 := ⟨_, rfl⟩
 suffices hgo : ∃ r h', callW Φ (.fn (.func qZe.k) [] []) [.ptr p 0, T s] H = some (r, h') ∧ P r h' by
  obtain ⟨r, h', h1, h2⟩ := hgo
  rw [hP] at h2
  obtain ⟨rfl, rfl⟩ := h2
  exact h1
 have hPf : P (.tup [T (n2 (unquote 4 117 s)), .bool (unquote 4 117 s).isSome]) (H2) := by rw [hP]; exact ⟨rfl, rfl⟩
 clear hP
 refine kZY qZe.Φ rfl (Nat.le_of_ble_eq_true rfl) (fun env he h0 => ?_)
 have g0 := h0 0 (by simp)
 change eget env 0 = .ptr p 0 at g0
 have g1 := h0 1 (by simp)
 change eget env 1 = T s at g1
 clear h0
 simp [qZe.c] at he
 have hn := fun H => xZv 4 117 (by omega) (by decide) s hz H
 have e4 : (((4 : Nat)) : Int) = 4 := rfl
 simp only [q117, e4] at hn
 simp [qZe.c, qZe.r0, qZe.r1, qZe.r2, qZe.r3, g0, g1, he, hn, evExt, evNilchk, hs, hPf]
theorem cutP3 (s : Bs) (H : Heap) : callW Φ qZh [T s, .str ⟨#[121, 101, 115]⟩] H = some (cutP s [121, 101, 115], H) := xZs s [121, 101, 115] H
theorem cutP2 (s : Bs) (H : Heap) : callW Φ qZh [T s, .str ⟨#[110, 111]⟩] H = some (cutP s [110, 111], H) := xZs s [110, 111] H
theorem xZN (H H2 : Heap) (p : Nat) (s : Bs) (hs : evStoreV H 1 (.ptr p 11) (.bool true) = some (.non, H2)) : ∃ r h', callW Φ (.fn (.func qZa.k) [] []) [.ptr p 0, T s] H = some (r, h') ∧ (fun r h' => if s.take 3 = [121, 101, 115] then r = .tup [T (s.drop 3), .bool true] ∧ h' = H2 else (if s.take 2 = [110, 111] then r = .tup [T (s.drop 2), .bool true] else r = .tup [T s, .bool false]) ∧ h' = H) r h' := by
 obtain ⟨P, hP⟩ : ∃ P : V → Heap → Prop, P = fun r h' => if s.take 3 = [121, 101, 115] then r = .tup [T (s.drop 3), .bool true] ∧ h' = H2 else (if s.take 2 = [110, 111] then r = .tup [T (s.drop 2), .bool true] else r = .tup [T s, .bool false]) ∧ h' = H := ⟨_, rfl⟩
 suffices hgo : ∃ r h', callW Φ (.fn (.func qZa.k) [] []) [.ptr p 0, T s] H = some (r, h') ∧ P r h' by rw [hP] at hgo; exact hgo
 have hPi : ∀ r h', (fun r h' => if s.take 3 = [121, 101, 115] then r = .tup [T (s.drop 3), .bool true] ∧ h' = H2 else (if s.take 2 = [110, 111] then r = .tup [T (s.drop 2), .bool true] else r = .tup [T s, .bool false]) ∧ h' = H) r h' → P r h' := fun r h' q => by rw [hP]; exact q
 clear hP
 refine kZY qZa.Φ rfl (Nat.le_of_ble_eq_true rfl) (fun env he h0 => ?_)
 have g0 := h0 0 (by simp)
 change eget env 0 = .ptr p 0 at g0
 have g1 := h0 1 (by simp)
 change eget env 1 = T s at g1
 clear h0
 simp [qZa.c] at he
 have h3 := fun H => cutP3 s H
 have h2 := fun H => cutP2 s H
 have hp3 : pre s [121, 101, 115] = decide (s.take 3 = [121, 101, 115]) := by
  unfold pre
  by_cases h : s.take 3 = [121, 101, 115] <;> simp [h]
 have hp2 : pre s [110, 111] = decide (s.take 2 = [110, 111]) := by
  unfold pre
  by_cases h : s.take 2 = [110, 111] <;> simp [h]
 simp only [cutP, hp3, hp2] at h3 h2
 by_cases c3 : s.take 3 = [121, 101, 115]
 ·have hf := hPi (.tup [T (s.drop 3), .bool true]) H2 (by simp [c3])
  simp only [c3, decide_true, if_true] at h3
  simp [qZa.c, qZa.r0, qZa.r1, qZa.r2, qZa.r3, qZa.r4, qZa.r5, g0, g1, he, h3, evExt, evNilchk, hs, hf]
 ·simp only [c3, decide_false, Bool.false_eq_true, if_false] at h3
  by_cases c2 : s.take 2 = [110, 111]
  ·have hf := hPi (.tup [T (s.drop 2), .bool true]) H (by simp [c3, c2])
   simp only [c2, decide_true, if_true] at h2
   simp [qZa.c, qZa.r0, qZa.r1, qZa.r2, qZa.r3, qZa.r4, qZa.r5, g0, g1, he, h3, h2, evExt, hf]
  ·have hf := hPi (.tup [T s, .bool false]) H (by simp [c3, c2])
   simp only [c2, decide_false, Bool.false_eq_true, if_false] at h2
   simp [qZa.c, qZa.r0, qZa.r1, qZa.r2, qZa.r3, qZa.r4, qZa.r5, g0, g1, he, h3, h2, evExt, hf]
open Go Go.Ev
def itR {α : Type} (Q : Heap → List α → Prop) (Bad : Heap → Prop) (x : Option (List α × Bs)) (r : V) (h : Heap) : Prop := match x with
 | some (l, rest) => r = .tup [T rest, .bool true] ∧ Q h l ∧ rest.length < 2 ^ 40
 | none => r = .tup [T [], .bool false] ∧ Bad h
def oneR {α : Type} (Q : Heap → List α → Prop) (Bad : Heap → Prop) (out : List α) (x : Option (α × Bs)) (r : V) (h : Heap) : Prop := match x with
 | some (a, rest) => r = .tup [T rest, .bool true] ∧ Q h (out ++ [a])
 | none => (∃ t : Bs, r = .tup [T t, .bool false]) ∧ Bad h
theorem xZz {α : Type} (one : Bs → Option (α × Bs)) (g : V) (N : Nat) (hN : N < 2 ^ 40) (Q : Heap → List α → Prop) (Bad : Heap → Prop) (hQB : ∀ h l, Q h l → Bad h) (hsuf : ∀ s x r, one s = some (x, r) → r.length ≤ s.length) (hone : ∀ h out s, Q h out → out.length + s.length ≤ N → ∃ r h', callW Φ g [T s] h = some (r, h') ∧ oneR Q Bad out (one s) r h') (s : Bs) (hs : s.length ≤ N) (H : Heap) (hQ : Q H []) : ∃ r h', callW Φ (.fn (.func zZI.k) [] []) [T s, g] H = some (r, h') ∧ (itR Q Bad (items one s [])) r h' := by
 obtain ⟨P, hP⟩ : ∃ P : V → Heap → Prop, P = itR Q Bad (items one s []) := ⟨_, rfl⟩
 suffices hgo : ∃ r h', callW Φ (.fn (.func zZI.k) [] []) [T s, g] H = some (r, h') ∧ P r h' by rw [hP] at hgo; exact hgo
 have hPi : ∀ r h', (itR Q Bad (items one s [])) r h' → P r h' := fun r h' q => by rw [hP]; exact q
 clear hP
 refine kZY zZI.Φ rfl (Nat.le_of_ble_eq_true rfl) (fun env he h0 => ?_)
 have g0 := h0 0 (by simp)
 change eget env 0 = T s at g0
 have g1 := h0 1 (by simp)
 change eget env 1 = g at g1
 clear h0
 simp [zZI.c] at he
 have hno : ∀ h, items one s [] = none → Bad h → P (.tup [T [], .bool false]) h := fun h e hb => hPi _ _ (by rw [e]; exact ⟨rfl, hb⟩)
 have hyes : ∀ h l r, items one s [] = some (l, r) → Q h l → r.length < 2 ^ 40 → P (.tup [T r, .bool true]) h := fun h l r e hq hr => hPi _ _ (by rw [e]; exact ⟨rfl, hq, hr⟩)
 have c91 := fun H b r => cut1 b 91 r H
 have c93 := fun H b r => cut1 b 93 r H
 have c32 := fun H b r => cut1 b 32 r H
 have z91 := fun H => cut0 91 H
 have z93 := fun H => cut0 93 H
 have z32 := fun H => cut0 32 H
 have go : ∀ (t : Bs) (env : List V), t.length ≤ N → env.length = 47 → eget env 0 = T t → eget env 1 = g → items one s [] = itemsL one t [] → WK (callW Φ) none (FinX [.tmp 4, .tmp 5] P) [.c (.loop zZI.b16), .b 0] { env := env, marks := [], heap := H } := by
  intro t env ht he g0 g1 hit
  obtain ⟨I, hI⟩ : ∃ I : Nat → St → Prop, I = fun m st => ∃ (t : Bs) (out : List α), m = t.length ∧ eget st.env 0 = T t ∧ eget st.env 1 = g ∧ st.env.length = 47 ∧ st.marks = [] ∧ Q st.heap out ∧ out.length + t.length ≤ N ∧ items one s [] = itemsL one t out := ⟨_, rfl⟩
  refine kLoop I t.length (by rw [hI]; exact ⟨t, [], rfl, g0, g1, he, rfl, hQ, by simpa using ht, hit⟩) ?_
  rintro m ⟨env, mk, Hh⟩ hst
  rw [hI] at hst
  obtain ⟨t, out, rfl, k0, k1, hl, hm, hq, hlen, hit⟩ := hst
  simp only at k0 k1 hl hm hq
  obtain rfl := hm
  obtain ⟨r, h', hc, hr⟩ := hone Hh out t hq hlen
  cases ho : one t with
  | none =>
   rw [ho] at hr
   obtain ⟨⟨u, rfl⟩, hb⟩ := hr
   have hn := hno h' (by rw [hit, itemsL, ho]) hb
   simp only [zZI.b16]
   simp [zZI.r7, zZI.r8, zZI.r9, k0, k1, hl, hc, evExt, hn]
  | some p =>
   obtain ⟨a, r⟩ := p
   rw [ho] at hr
   obtain ⟨rfl, hq2⟩ := hr
   have hsf := hsuf t a r ho
   cases r with
   | nil =>
    have hn := hno h' (by rw [hit, itemsL, ho]) (hQB _ _ hq2)
    simp only [zZI.b16]
    simp [zZI.r7, zZI.r8, zZI.r10, zZI.r11, zZI.r13, zZI.r14, zZI.r15, k0, k1, hl, hc, evExt, z93, z32, hn]
   | cons e r =>
    simp only [List.length_cons] at hsf
    by_cases e93 : e = 93
    ·have hy := hyes h' (out ++ [a]) r (by rw [hit, itemsL, ho]; simp [e93]) hq2 (by omega)
     simp only [zZI.b16]
     simp [zZI.r7, zZI.r8, zZI.r10, zZI.r11, zZI.r12, k0, k1, hl, hc, evExt, c93, e93, hy]
    ·by_cases e32 : e = 32
     ·have hnx : items one s [] = itemsL one r (out ++ [a]) := by
       rw [hit, itemsL, ho]
       simp only
       rw [if_neg e93, if_pos e32, if_pos (show r.length < t.length by omega)]
      simp only [zZI.b16]
      simp [zZI.r7, zZI.r8, zZI.r10, zZI.r11, zZI.r13, zZI.r14, k0, k1, hl, hc, evExt, c93, c32, e32]
      refine ⟨r.length, by omega, ?_⟩
      rw [hI]
      exact ⟨r, out ++ [a], rfl, by simp [hl], by simp [k1], by simp [hl], rfl, hq2, by simp; omega, hnx⟩
     ·have hn := hno h' (by rw [hit, itemsL, ho]; simp [e93, e32]) (hQB _ _ hq2)
      simp only [zZI.b16]
      simp [zZI.r7, zZI.r8, zZI.r10, zZI.r11, zZI.r13, zZI.r14, zZI.r15, k0, k1, hl, hc, evExt, c93, c32, e93, e32, hn]
 cases s with
 | nil =>
  have hn := hno H (by rfl) (hQB _ _ hQ)
  simp [zZI.c, zZI.r0, zZI.r1, zZI.r2, zZI.r3, g0, he, z91, evExt, hn]
 | cons b s =>
  simp only [List.length_cons] at hs
  by_cases c1 : b = 91
  case neg =>
   have hn := hno H (by simp [items, c1]) (hQB _ _ hQ)
   simp [zZI.c, zZI.r0, zZI.r1, zZI.r2, zZI.r3, g0, he, c91, c1, evExt, hn]
  cases s with
  | nil =>
   have hit : items one (b :: []) [] = itemsL one [] [] := by simp [items, c1]
   simp [zZI.c, zZI.r0, zZI.r1, zZI.r2, zZI.r4, zZI.r5, g0, he, c91, z93, c1, evExt]
   exact go [] _ (by simp) (by simp [he]) (by simp [he]) (by simp [g1]) hit
  | cons e s =>
   simp only [List.length_cons] at hs
   by_cases c2 : e = 93
   ·have hy := hyes H [] s (by simp [items, c1, c2]) hQ (by omega)
    simp [zZI.c, zZI.r0, zZI.r1, zZI.r2, zZI.r4, zZI.r5, zZI.r6, g0, he, c91, c93, c1, c2, evExt, hy]
   ·have hit : items one (b :: e :: s) [] = itemsL one (e :: s) [] := by simp [items, c1, c2]
    simp [zZI.c, zZI.r0, zZI.r1, zZI.r2, zZI.r4, zZI.r5, g0, he, c91, c93, c1, c2, evExt]
    exact go (e :: s) _ (by simp; omega) (by simp [he]) (by simp [he]) (by simp [g1]) hit
end Go.Proofs.Sc
