/- A command's fields as they are written. Lists as they are written; the table of the fields. No conditions. -/
import Derived.Test.YtcfgiajpbjbdpaaGreatDoorScI
set_option maxHeartbeats 16000000
set_option maxRecDepth 100000
set_option linter.unusedVariables false
set_option linter.unusedSimpArgs false
set_option linter.unusedSectionVars false
namespace Go.Proofs.Sc
open Go Go.Ev
theorem kZY {f : FuncId} {cf : Cf} (hf : Φ f = some cf) (hp : cf.pure = false) {caps args : List V} {h : Heap} {P : V → Heap → Prop} (hn : (args ++ caps).length ≤ cf.ntmps)
  (hw : ∀ env : List V, env.length = cf.ntmps → (∀ i, i < (args ++ caps).length → eget env i = eget (args ++ caps) i) → WK (callW Φ) none (FinX cf.results P) [.c cf.body] { env := env, marks := [], heap := h }) :
  ∃ r h', callW Φ (.fn (.func f) [] caps) args h = some (r, h') ∧ P r h' := by
 obtain ⟨r, h', h1, h2⟩ := xZ4 (call := callW Φ) (cf := cf) (P := P) hn hw
 refine ⟨r, h', wZC hf hp ?_, h2⟩
 simpa using h1
def Ext (H H' : Heap) : Prop := H.length ≤ H'.length ∧ ∀ j, j < H.length → H'[j]? = H[j]?
theorem Ext.refl (H : Heap) : Ext H H := ⟨Nat.le_refl _, fun _ _ => rfl⟩
theorem Ext.trans {A B C : Heap} (h1 : Ext A B) (h2 : Ext B C) : Ext A C := ⟨Nat.le_trans h1.1 h2.1, fun j hj => by rw [h2.2 j (Nat.lt_of_lt_of_le hj h1.1), h1.2 j hj]⟩
theorem Ext.at {H H' : Heap} (h : Ext H H') {j : Nat} {o : Ob} (ho : H[j]? = some o) : H'[j]? = some o := by rw [h.2 j (List.getElem?_eq_some_iff.1 ho).1]; exact ho
theorem Ext.push (H E : Heap) : Ext H (H ++ E) := ⟨by simp, fun j hj => List.getElem?_append_left hj⟩
/-! ### Sizes -/
def bulk (c : Cmd) : Nat := c.s.length + c.t.length + c.data.length + c.list.length + (c.names.map fun x => x.length + 1).sum
def SzL (c : Cmd) : Prop := c.op < 256 ∧ okC c ∧ bulk c ≤ 1048576
theorem mem_sum {l : List Bs} {x : Bs} (h : x ∈ l) : x.length + 1 ≤ (l.map fun x => x.length + 1).sum := by
 induction l with
 | nil => cases h
 | cons y l ih =>
  simp only [List.map_cons, List.sum_cons]
  rcases List.mem_cons.1 h with rfl | h
  ·omega
  ·have := ih h; omega
theorem xZr (l : List Bs) : l.length ≤ (l.map fun x => x.length + 1).sum := by
 induction l with
 | nil => simp
 | cons y l ih => simp only [List.map_cons, List.sum_cons, List.length_cons]; omega
theorem jn_len {l : List Bs} {B : Nat} (h : ∀ x ∈ l, x.length ≤ B) : (jn l).length ≤ l.length * (B + 1) := by
 induction l with
 | nil => simp [jn]
 | cons x l ih =>
  have h1 := h x (by simp)
  have ih := ih fun y hy => h y (by simp [hy])
  cases l with
  | nil => simp [jn]; omega
  | cons y l =>
   have e : jn (x :: y :: l) = x ++ 32 :: jn (y :: l) := by simp [jn]
   rw [e, List.length_append, List.length_cons, List.length_cons, Nat.succ_mul]
   omega
theorem xZm (s : Bs) : (quoteB s).length ≤ 6 * s.length + 2 := by
 have := quote_len (k := 2) (by omega) 120 (s.map (·.toNat))
 rw [List.length_map] at this
 exact this
theorem jnq_len (l : List Bs) : (jn (l.map quoteB)).length ≤ 6 * (l.map fun x => x.length + 1).sum := by
 induction l with
 | nil => simp [jn]
 | cons x l ih =>
  have := xZm x
  cases l with
  | nil => simp [jn]; omega
  | cons y l =>
   have e : jn ((x :: y :: l).map quoteB) = quoteB x ++ 32 :: jn ((y :: l).map quoteB) := by simp [jn]
   rw [e, List.length_append, List.length_cons, show (x :: y :: l).map (fun x => x.length + 1) = (x.length + 1) :: (y :: l).map (fun x => x.length + 1) from rfl, List.sum_cons]
   omega
theorem wf_len {c : Cmd} (z : SzL c) (r : UInt8) : (wf r c).length ≤ 2 ^ 25 := by
 obtain ⟨_, ⟨o1, o2, o3, o4, o5, o6, o7⟩, hb⟩ := z
 unfold bulk at hb
 have q1 := xZm c.s
 have q2 := xZm c.t
 have q3 := quote_len (k := 4) (by omega) 117 c.data
 have q4 : (jn (c.list.map itoa)).length ≤ c.list.length * 21 := by
  have := jn_len (l := c.list.map itoa) (B := 20) fun x hx => by
   obtain ⟨n, hn, rfl⟩ := List.mem_map.1 hx
   exact kZ4 (o7 n hn)
  simpa using this
 have q5 := jnq_len c.names
 have i1 := kZ4 o1
 have i2 := kZ4 o2
 have i3 := kZ4 o3
 have i4 := kZ4 o4
 have i5 := kZ4 o5
 by_cases h65 : r = 65
 ·subst h65
  show (itoa c.a).length ≤ _
  omega
 by_cases h66 : r = 66
 ·subst h66
  show (itoa c.b).length ≤ _
  omega
 by_cases h67 : r = 67
 ·subst h67
  show (itoa c.c).length ≤ _
  omega
 by_cases h78 : r = 78
 ·subst h78
  show (itoa c.n).length ≤ _
  omega
 by_cases h77 : r = 77
 ·subst h77
  show (itoa c.m).length ≤ _
  omega
 by_cases h83 : r = 83
 ·subst h83
  show (quoteB c.s).length ≤ _
  omega
 by_cases h84 : r = 84
 ·subst h84
  show (quoteB c.t).length ≤ _
  omega
 by_cases h68 : r = 68
 ·subst h68
  show (quoteU 4 117 c.data).length ≤ _
  omega
 by_cases h76 : r = 76
 ·subst h76
  show (91 :: (jn (c.list.map itoa) ++ [93])).length ≤ _
  simp only [List.length_cons, List.length_append, List.length_nil]
  omega
 by_cases h75 : r = 75
 ·subst h75
  show (91 :: (jn (c.names.map quoteB) ++ [93])).length ≤ _
  simp only [List.length_cons, List.length_append, List.length_nil]
  omega
 by_cases h89 : r = 89
 ·subst h89
  show (yesB c.yes).length ≤ _
  cases c.yes <;> decide
 simp [wf, h65, h66, h67, h78, h77, h83, h84, h68, h76, h75, h89]
/-! ### Joined -/
theorem join_jn : ∀ l : List Bs, Lib.join l [32] = jn l
 | [] => rfl
 | [x] => by simp [Lib.join, jn]
 | x :: y :: l => by
  have ih := join_jn (y :: l)
  unfold Lib.join at ih ⊢
  have e : jn (x :: y :: l) = x ++ 32 :: jn (y :: l) := by simp [jn]
  rw [e, ← ih]
  simp [List.intercalate]
theorem strsOf_cT : ∀ l : List Bs, strsOf (l.map cT) = some (l.map fun x => ⟨x.toArray⟩)
 | [] => rfl
 | x :: l => by
  show (strsOf (l.map cT)).map _ = _
  rw [strsOf_cT l]
  rfl
theorem join_call {H : Heap} {v : V} {o : Option Nat} {l : List Bs} (hv : VL H 1 v o (l.map cT)) (hl : l.length ≤ 2 ^ 40) (hj : (jn l).length ≤ 2 ^ 40) : callW Φ strings_Join [v, T [32]] H = some (T (jn l), H) := by
 refine prim2 strings_Join.Φ ?_
 have hb : bytesIn H v = some (l.map cT) := by
  rcases hv with ⟨rfl | rfl, hl, _⟩ | ⟨id, ep, _, rfl, hr, _⟩
  ·simp [bytesIn, elemsOf, hl]
  ·simp [bytesIn, elemsOf, hl]
  ·simp [bytesIn, elemsOf, hr, List.take_of_length_le]
 have he : (l.map fun x => (⟨x.toArray⟩ : ByteArray)).map (·.data.toList) = l := by simp [List.map_map, Function.comp_def]
 have h32 : (⟨[32].toArray⟩ : ByteArray).data.toList = [32] := rfl
 simp only [evPrim, hb, strsOf_cT, he, h32, join_jn]
 rw [if_pos (by rw [List.length_map]; unfold maxJ; omega)]
 simp [okV, fV_eq]
theorem add_T {a b : Bs} (h : a.length + b.length < 2 ^ 60) : binV .add (T a) (T b) = some (T (a ++ b)) := by
 have hm : ¬ (((⟨a.toArray⟩ : ByteArray).size + (⟨b.toArray⟩ : ByteArray).size : Nat) : Int) > IntKind.i64.max := by
  rw [vZm, vZm]
  have : IntKind.i64.max = 9223372036854775807 := by decide
  omega
 simp only [binV, hm, if_false, T_app]
/-! ### Fields' functions -/
theorem xZe (H : Heap) (p : Nat) : callW Φ (.fn (.func qZs.k) [] []) [.ptr p 0] H = some (.ptr p 1, H) := by
 obtain ⟨P, hP⟩ : ∃ P : V → Heap → Prop, P = fun r h' => r = .ptr p 1 ∧ h' = H := ⟨_, rfl⟩
 suffices hgo : ∃ r h', callW Φ (.fn (.func qZs.k) [] []) [.ptr p 0] H = some (r, h') ∧ P r h' by
  obtain ⟨r, h', h1, h2⟩ := hgo
  rw [hP] at h2
  obtain ⟨rfl, rfl⟩ := h2
  exact h1
 have hPf : P (.ptr p 1) (H) := by rw [hP]; exact ⟨rfl, rfl⟩
 clear hP
 refine kZY qZs.Φ rfl (Nat.le_of_ble_eq_true rfl) (fun env he h0 => ?_)
 have g0 := h0 0 (by simp)
 change eget env 0 = .ptr p 0 at g0
 clear h0
 simp [qZs.c] at he
 simp [qZs.c, qZs.r0, qZs.r1, g0, he, evNilchk, hPf]
theorem xZf (H : Heap) (p : Nat) : callW Φ (.fn (.func qZt.k) [] []) [.ptr p 0] H = some (.ptr p 2, H) := by
 obtain ⟨P, hP⟩ : ∃ P : V → Heap → Prop, P = fun r h' => r = .ptr p 2 ∧ h' = H := ⟨_, rfl⟩
 suffices hgo : ∃ r h', callW Φ (.fn (.func qZt.k) [] []) [.ptr p 0] H = some (r, h') ∧ P r h' by
  obtain ⟨r, h', h1, h2⟩ := hgo
  rw [hP] at h2
  obtain ⟨rfl, rfl⟩ := h2
  exact h1
 have hPf : P (.ptr p 2) (H) := by rw [hP]; exact ⟨rfl, rfl⟩
 clear hP
 refine kZY qZt.Φ rfl (Nat.le_of_ble_eq_true rfl) (fun env he h0 => ?_)
 have g0 := h0 0 (by simp)
 change eget env 0 = .ptr p 0 at g0
 clear h0
 simp [qZt.c] at he
 simp [qZt.c, qZt.r0, qZt.r1, g0, he, evNilchk, hPf]
theorem xZg (H : Heap) (p : Nat) : callW Φ (.fn (.func qZu.k) [] []) [.ptr p 0] H = some (.ptr p 3, H) := by
 obtain ⟨P, hP⟩ : ∃ P : V → Heap → Prop, P = fun r h' => r = .ptr p 3 ∧ h' = H := ⟨_, rfl⟩
 suffices hgo : ∃ r h', callW Φ (.fn (.func qZu.k) [] []) [.ptr p 0] H = some (r, h') ∧ P r h' by
  obtain ⟨r, h', h1, h2⟩ := hgo
  rw [hP] at h2
  obtain ⟨rfl, rfl⟩ := h2
  exact h1
 have hPf : P (.ptr p 3) (H) := by rw [hP]; exact ⟨rfl, rfl⟩
 clear hP
 refine kZY qZu.Φ rfl (Nat.le_of_ble_eq_true rfl) (fun env he h0 => ?_)
 have g0 := h0 0 (by simp)
 change eget env 0 = .ptr p 0 at g0
 clear h0
 simp [qZu.c] at he
 simp [qZu.c, qZu.r0, qZu.r1, g0, he, evNilchk, hPf]
theorem xZh (H : Heap) (p : Nat) : callW Φ (.fn (.func qZv.k) [] []) [.ptr p 0] H = some (.ptr p 4, H) := by
 obtain ⟨P, hP⟩ : ∃ P : V → Heap → Prop, P = fun r h' => r = .ptr p 4 ∧ h' = H := ⟨_, rfl⟩
 suffices hgo : ∃ r h', callW Φ (.fn (.func qZv.k) [] []) [.ptr p 0] H = some (r, h') ∧ P r h' by
  obtain ⟨r, h', h1, h2⟩ := hgo
  rw [hP] at h2
  obtain ⟨rfl, rfl⟩ := h2
  exact h1
 have hPf : P (.ptr p 4) (H) := by rw [hP]; exact ⟨rfl, rfl⟩
 clear hP
 refine kZY qZv.Φ rfl (Nat.le_of_ble_eq_true rfl) (fun env he h0 => ?_)
 have g0 := h0 0 (by simp)
 change eget env 0 = .ptr p 0 at g0
 clear h0
 simp [qZv.c] at he
 simp [qZv.c, qZv.r0, qZv.r1, g0, he, evNilchk, hPf]
theorem xZi (H : Heap) (p : Nat) : callW Φ (.fn (.func qZw.k) [] []) [.ptr p 0] H = some (.ptr p 5, H) := by
 obtain ⟨P, hP⟩ : ∃ P : V → Heap → Prop, P = fun r h' => r = .ptr p 5 ∧ h' = H := ⟨_, rfl⟩
 suffices hgo : ∃ r h', callW Φ (.fn (.func qZw.k) [] []) [.ptr p 0] H = some (r, h') ∧ P r h' by
  obtain ⟨r, h', h1, h2⟩ := hgo
  rw [hP] at h2
  obtain ⟨rfl, rfl⟩ := h2
  exact h1
 have hPf : P (.ptr p 5) (H) := by rw [hP]; exact ⟨rfl, rfl⟩
 clear hP
 refine kZY qZw.Φ rfl (Nat.le_of_ble_eq_true rfl) (fun env he h0 => ?_)
 have g0 := h0 0 (by simp)
 change eget env 0 = .ptr p 0 at g0
 clear h0
 simp [qZw.c] at he
 simp [qZw.c, qZw.r0, qZw.r1, g0, he, evNilchk, hPf]
theorem xZj (H : Heap) (p : Nat) : callW Φ (.fn (.func qZx.k) [] []) [.ptr p 0] H = some (.ptr p 6, H) := by
 obtain ⟨P, hP⟩ : ∃ P : V → Heap → Prop, P = fun r h' => r = .ptr p 6 ∧ h' = H := ⟨_, rfl⟩
 suffices hgo : ∃ r h', callW Φ (.fn (.func qZx.k) [] []) [.ptr p 0] H = some (r, h') ∧ P r h' by
  obtain ⟨r, h', h1, h2⟩ := hgo
  rw [hP] at h2
  obtain ⟨rfl, rfl⟩ := h2
  exact h1
 have hPf : P (.ptr p 6) (H) := by rw [hP]; exact ⟨rfl, rfl⟩
 clear hP
 refine kZY qZx.Φ rfl (Nat.le_of_ble_eq_true rfl) (fun env he h0 => ?_)
 have g0 := h0 0 (by simp)
 change eget env 0 = .ptr p 0 at g0
 clear h0
 simp [qZx.c] at he
 simp [qZx.c, qZx.r0, qZx.r1, g0, he, evNilchk, hPf]
theorem xZk (H : Heap) (p : Nat) : callW Φ (.fn (.func qZy.k) [] []) [.ptr p 0] H = some (.ptr p 7, H) := by
 obtain ⟨P, hP⟩ : ∃ P : V → Heap → Prop, P = fun r h' => r = .ptr p 7 ∧ h' = H := ⟨_, rfl⟩
 suffices hgo : ∃ r h', callW Φ (.fn (.func qZy.k) [] []) [.ptr p 0] H = some (r, h') ∧ P r h' by
  obtain ⟨r, h', h1, h2⟩ := hgo
  rw [hP] at h2
  obtain ⟨rfl, rfl⟩ := h2
  exact h1
 have hPf : P (.ptr p 7) (H) := by rw [hP]; exact ⟨rfl, rfl⟩
 clear hP
 refine kZY qZy.Φ rfl (Nat.le_of_ble_eq_true rfl) (fun env he h0 => ?_)
 have g0 := h0 0 (by simp)
 change eget env 0 = .ptr p 0 at g0
 clear h0
 simp [qZy.c] at he
 simp [qZy.c, qZy.r0, qZy.r1, g0, he, evNilchk, hPf]
theorem xZn (s : Bs) (hz : s.length < 2 ^ 40) (H : Heap) : callW Φ qZN [T s] H = some (T (quoteB s), H) := by
 have : ∃ hh, evBodyW (callW Φ) qZN.c [T s] [] = some (T (quoteB s), hh) := by
  refine wZg (Nat.le_of_ble_eq_true rfl) (fun env he h0 => ?_)
  have g0 := h0 0 (by simp)
  change eget env 0 = T s at g0
  clear h0
  simp [qZN.c] at he
  have hb := fun H => kZ2 s hz H
  have hq := fun H => kZZ 2 120 (by omega) (s.map fun b => b.toNat) (by rw [List.length_map]; exact hz) (by
   intro u hu
   obtain ⟨b, _, rfl⟩ := List.mem_map.1 hu
   have := b.toNat_lt
   omega) H
  have e120 : (((120 : UInt8).toNat : Nat) : Int) = 120 := rfl
  simp only [e120] at hq
  have e2 : (((2 : Nat)) : Int) = 2 := rfl
  simp only [e2, List.map_map] at hq hb
  simp [qZN.c, qZN.r0, qZN.r1, g0, he, hb, hq, quoteB]
 obtain ⟨h', hb⟩ := this
 exact qZ7 (h := H) qZN.Φ rfl (args := [T s]) rfl hb rfl
theorem kZX (H : Heap) (p off b : Nat) (g : V) (n : Int) (rest : List V) (hn : ok64 n) (hb : cellsAt H (.ptr b 0) = some [g]) (hg : callW Φ g [.ptr p 0] H = some (.ptr p off, H)) (hc : cellsAt H (.ptr p off) = some (.int .i64 n :: rest)) : callW Φ (.fn (.func qZO.k) [] [.ptr b 0]) [.ptr p 0] H = some (T (itoa n), H) := by
 obtain ⟨P, hP⟩ : ∃ P : V → Heap → Prop, P = fun r h' => r = T (itoa n) ∧ h' = H := ⟨_, rfl⟩
 suffices hgo : ∃ r h', callW Φ (.fn (.func qZO.k) [] [.ptr b 0]) [.ptr p 0] H = some (r, h') ∧ P r h' by
  obtain ⟨r, h', h1, h2⟩ := hgo
  rw [hP] at h2
  obtain ⟨rfl, rfl⟩ := h2
  exact h1
 have hPf : P (T (itoa n)) (H) := by rw [hP]; exact ⟨rfl, rfl⟩
 clear hP
 refine kZY qZO.Φ rfl (Nat.le_of_ble_eq_true rfl) (fun env he h0 => ?_)
 have g0 := h0 0 (by simp)
 change eget env 0 = .ptr p 0 at g0
 have g1 := h0 1 (by simp)
 change eget env 1 = .ptr b 0 at g1
 clear h0
 simp [qZO.c] at he
 have hi := fun H => zYaG hn H
 simp [qZO.c, qZO.r0, qZO.r1, g0, g1, he, hb, hg, evNilchk, hc, hi, hPf]
theorem kZ0 (H : Heap) (p off b : Nat) (g : V) (s : Bs) (rest : List V) (hz : s.length < 2 ^ 40) (hb : cellsAt H (.ptr b 0) = some [g]) (hg : callW Φ g [.ptr p 0] H = some (.ptr p off, H)) (hc : cellsAt H (.ptr p off) = some (T s :: rest)) : callW Φ (.fn (.func qZH.k) [] [.ptr b 0]) [.ptr p 0] H = some (T (quoteB s), H) := by
 obtain ⟨P, hP⟩ : ∃ P : V → Heap → Prop, P = fun r h' => r = T (quoteB s) ∧ h' = H := ⟨_, rfl⟩
 suffices hgo : ∃ r h', callW Φ (.fn (.func qZH.k) [] [.ptr b 0]) [.ptr p 0] H = some (r, h') ∧ P r h' by
  obtain ⟨r, h', h1, h2⟩ := hgo
  rw [hP] at h2
  obtain ⟨rfl, rfl⟩ := h2
  exact h1
 have hPf : P (T (quoteB s)) (H) := by rw [hP]; exact ⟨rfl, rfl⟩
 clear hP
 refine kZY qZH.Φ rfl (Nat.le_of_ble_eq_true rfl) (fun env he h0 => ?_)
 have g0 := h0 0 (by simp)
 change eget env 0 = .ptr p 0 at g0
 have g1 := h0 1 (by simp)
 change eget env 1 = .ptr b 0 at g1
 clear h0
 simp [qZH.c] at he
 have hq := fun H => xZn s hz H
 simp [qZH.c, qZH.r0, qZH.r1, g0, g1, he, hb, hg, evNilchk, hc, hq, hPf]
theorem xZb (H : Heap) (p : Nat) (c : Cmd) (z : SzL c) (hc : ∀ off, cellsAt H (.ptr p off) = some ((cC c).drop off)) : callW Φ (.fn (.func qZo.k) [] []) [.ptr p 0] H = some (T (quoteU 4 117 c.data), H) := by
 obtain ⟨P, hP⟩ : ∃ P : V → Heap → Prop, P = fun r h' => r = T (quoteU 4 117 c.data) ∧ h' = H := ⟨_, rfl⟩
 suffices hgo : ∃ r h', callW Φ (.fn (.func qZo.k) [] []) [.ptr p 0] H = some (r, h') ∧ P r h' by
  obtain ⟨r, h', h1, h2⟩ := hgo
  rw [hP] at h2
  obtain ⟨rfl, rfl⟩ := h2
  exact h1
 have hPf : P (T (quoteU 4 117 c.data)) (H) := by rw [hP]; exact ⟨rfl, rfl⟩
 clear hP
 refine kZY qZo.Φ rfl (Nat.le_of_ble_eq_true rfl) (fun env he h0 => ?_)
 have g0 := h0 0 (by simp)
 change eget env 0 = .ptr p 0 at g0
 clear h0
 simp [qZo.c] at he
 have hq := fun H => kZZ 4 117 (by omega) c.data (by have := z.2.2; unfold bulk at this; omega) z.2.1.2.2.2.2.2.1 H
 have e117 : (((117 : UInt8).toNat : Nat) : Int) = 117 := rfl
 have e4 : (((4 : Nat)) : Int) = 4 := rfl
 simp only [e117, e4] at hq
 simp [qZo.c, qZo.r0, qZo.r1, g0, he, evNilchk, hc, hq, hPf]
theorem xZl (H : Heap) (p : Nat) (c : Cmd) (hc : ∀ off, cellsAt H (.ptr p off) = some ((cC c).drop off)) : callW Φ (.fn (.func qZf.k) [] []) [.ptr p 0] H = some (T (yesB c.yes), H) := by
 obtain ⟨P, hP⟩ : ∃ P : V → Heap → Prop, P = fun r h' => r = T (yesB c.yes) ∧ h' = H := ⟨_, rfl⟩
 suffices hgo : ∃ r h', callW Φ (.fn (.func qZf.k) [] []) [.ptr p 0] H = some (r, h') ∧ P r h' by
  obtain ⟨r, h', h1, h2⟩ := hgo
  rw [hP] at h2
  obtain ⟨rfl, rfl⟩ := h2
  exact h1
 have hPf : P (T (yesB c.yes)) (H) := by rw [hP]; exact ⟨rfl, rfl⟩
 clear hP
 refine kZY qZf.Φ rfl (Nat.le_of_ble_eq_true rfl) (fun env he h0 => ?_)
 have g0 := h0 0 (by simp)
 change eget env 0 = .ptr p 0 at g0
 clear h0
 simp [qZf.c] at he
 cases hy : c.yes <;> simp [hy, yesB] at hPf <;> simp [qZf.c, qZf.r0, qZf.r1, qZf.r2, qZf.r3, g0, he, evNilchk, hc, hy, hPf]
open Go Go.Ev
theorem xZc (H : Heap) (p : Nat) (c : Cmd) (z : SzL c) (hc : H[p]? = some (.cells (cC c))) : ∃ r h', callW Φ (.fn (.func zZK.k) [] []) [.ptr p 0] H = some (r, h') ∧ (fun r h' => r = T (91 :: (jn (c.list.map itoa) ++ [93])) ∧ Ext H h') r h' := by
 obtain ⟨P, hP⟩ : ∃ P : V → Heap → Prop, P = fun r h' => r = T (91 :: (jn (c.list.map itoa) ++ [93])) ∧ Ext H h' := ⟨_, rfl⟩
 suffices hgo : ∃ r h', callW Φ (.fn (.func zZK.k) [] []) [.ptr p 0] H = some (r, h') ∧ P r h' by rw [hP] at hgo; exact hgo
 have hPi : ∀ r h', (fun r h' => r = T (91 :: (jn (c.list.map itoa) ++ [93])) ∧ Ext H h') r h' → P r h' := fun r h' q => by rw [hP]; exact q
 clear hP
 refine kZY zZK.Φ rfl (Nat.le_of_ble_eq_true rfl) (fun env he h0 => ?_)
 have g0 := h0 0 (by simp)
 change eget env 0 = .ptr p 0 at g0
 clear h0
 simp [zZK.c] at he
 have hb : c.list.length ≤ 1048576 := by have := z.2.2; unfold bulk at this; omega
 have hok : ∀ n ∈ c.list, ok64 n := z.2.1.2.2.2.2.2.2
 have cp := vZ5 hc
 simp [zZK.c, zZK.r0, zZK.r1, zZK.r2, g0, he, evNilchk, cp, vZi]
 obtain ⟨I, hI⟩ : ∃ I : Nat → St → Prop, I = fun m st => ∃ (i : Nat) (v : V) (o : Option Nat), m = c.list.length - i ∧ i ≤ c.list.length ∧ (eget st.env 3 = v ∧ eget st.env 9 = .arr (c.list.map cI) ∧ eget st.env 10 = .int .i64 c.list.length ∧ eget st.env 11 = .int .i64 i ∧ st.env.length = 25) ∧ st.marks = [] ∧ VL st.heap 1 v o (((c.list.take i).map itoa).map cT) ∧ Ext H st.heap ∧ ∀ id, o = some id → H.length ≤ id := ⟨_, rfl⟩
 refine kLoop I c.list.length (by rw [hI]; exact ⟨0, .nils, none, rfl, by omega, ⟨by simp [he], by simp [he], by simp [he], by simp [he], by simpa using he⟩, rfl, VL.nil _ _, .refl _, fun id h => by cases h⟩) ?_
 rintro m ⟨env, mk, Hh⟩ hst
 rw [hI] at hst
 obtain ⟨i, v, o, rfl, hi, ⟨k3, k9, k10, k11, hl⟩, hm, hv, hx, ho⟩ := hst
 simp only at k3 k9 k10 k11 hl hm hv hx
 obtain rfl := hm
 by_cases cd : i < c.list.length
 ·obtain ⟨n, hn⟩ : ∃ n, c.list[i]? = some n := ⟨_, List.getElem?_eq_getElem cd⟩
  have hn2 := hok n (List.mem_of_getElem? hn)
  have ia := zYaB (h := Hh) (k := .i64) hn
  have wr := wrap64 (n := (i : Int) + 1) (by omega) (by omega)
  have hit := fun H => zYaG hn2 H
  have hbs := bs1 Hh (.str ⟨#[]⟩) (T (itoa n)) ⟨rfl, rfl⟩
  obtain ⟨v', o', H2, ha, hv2, hl2, hrest, hnew⟩ := hv.add (by_ := 16) (es := [cT (itoa n)]) (plainT [itoa n]) (by simp only [List.length_map, List.length_take, List.length_cons, List.length_nil]; unfold roomB; omega)
  simp only [cT, List.length_cons, List.length_nil] at ha
  simp [zZK.b7, zZK.r3, zZK.r4, zZK.r5, zZK.r6, k3, k9, k10, k11, hl, cd, ia, cI, hit, hbs, ha, wr]
  refine ⟨c.list.length - (i + 1), by omega, ?_⟩
  rw [hI]
  refine ⟨i + 1, v', o', rfl, by omega, ⟨by simp [hl], by simp [k9, cI], by simp [k10], by simp [hl], by simp [hl]⟩, rfl, ?_, ⟨Nat.le_trans hx.1 hl2, fun j hj => ?_⟩, fun id hid => ?_⟩
  ·rw [List.take_add_one, hn]
   simpa using hv2
  ·rw [hrest j (by have := hx.1; omega) (fun e => by have := ho j e; omega), hx.2 j hj]
  ·rcases hnew id hid with h | h
   ·exact ho id h
   ·have := hx.1; omega
 ·have hie : i = c.list.length := by omega
  rw [hie, List.take_length] at hv
  have q4 : (jn (c.list.map itoa)).length ≤ c.list.length * 21 := by
   have := jn_len (l := c.list.map itoa) (B := 20) fun x hx => by
    obtain ⟨n, hn, rfl⟩ := List.mem_map.1 hx
    exact kZ4 (hok n hn)
   simpa using this
  have hj := join_call (H := Hh) hv (by rw [List.length_map]; omega) (by omega)
  have a1 := add_T (a := [91]) (b := jn (c.list.map itoa)) (by simp only [List.length_cons, List.length_nil]; omega)
  have a2 := add_T (a := 91 :: jn (c.list.map itoa)) (b := [93]) (by simp only [List.length_cons, List.length_nil]; omega)
  have hf := hPi (T (91 :: (jn (c.list.map itoa) ++ [93]))) Hh ⟨rfl, hx⟩
  simp only [List.cons_append, List.nil_append] at a1 a2
  simp [zZK.b7, zZK.r3, zZK.r8, k3, k9, k10, k11, hl, cd, hj, a1, a2, hf]
theorem kZ8 (H : Heap) (p : Nat) (c : Cmd) (z : SzL c) (hc : H[p]? = some (.cells (cC c))) : ∃ r h', callW Φ (.fn (.func zZG.k) [] []) [.ptr p 0] H = some (r, h') ∧ (fun r h' => r = T (91 :: (jn (c.names.map quoteB) ++ [93])) ∧ Ext H h') r h' := by
 obtain ⟨P, hP⟩ : ∃ P : V → Heap → Prop, P = fun r h' => r = T (91 :: (jn (c.names.map quoteB) ++ [93])) ∧ Ext H h' := ⟨_, rfl⟩
 suffices hgo : ∃ r h', callW Φ (.fn (.func zZG.k) [] []) [.ptr p 0] H = some (r, h') ∧ P r h' by rw [hP] at hgo; exact hgo
 have hPi : ∀ r h', (fun r h' => r = T (91 :: (jn (c.names.map quoteB) ++ [93])) ∧ Ext H h') r h' → P r h' := fun r h' q => by rw [hP]; exact q
 clear hP
 refine kZY zZG.Φ rfl (Nat.le_of_ble_eq_true rfl) (fun env he h0 => ?_)
 have g0 := h0 0 (by simp)
 change eget env 0 = .ptr p 0 at g0
 clear h0
 simp [zZG.c] at he
 have hb : (c.names.map fun x => x.length + 1).sum ≤ 1048576 := by have := z.2.2; unfold bulk at this; omega
 have hb2 := xZr c.names
 have cp := vZ5 hc
 simp [zZG.c, zZG.r0, zZG.r1, zZG.r2, g0, he, evNilchk, cp, vZi]
 obtain ⟨I, hI⟩ : ∃ I : Nat → St → Prop, I = fun m st => ∃ (i : Nat) (v : V) (o : Option Nat), m = c.names.length - i ∧ i ≤ c.names.length ∧ (eget st.env 3 = v ∧ eget st.env 9 = .arr (c.names.map cT) ∧ eget st.env 10 = .int .i64 c.names.length ∧ eget st.env 11 = .int .i64 i ∧ st.env.length = 26) ∧ st.marks = [] ∧ VL st.heap 1 v o (((c.names.take i).map quoteB).map cT) ∧ Ext H st.heap ∧ ∀ id, o = some id → H.length ≤ id := ⟨_, rfl⟩
 refine kLoop I c.names.length (by rw [hI]; exact ⟨0, .nils, none, rfl, by omega, ⟨by simp [he], by simp [he], by simp [he], by simp [he], by simpa using he⟩, rfl, VL.nil _ _, .refl _, fun id h => by cases h⟩) ?_
 rintro m ⟨env, mk, Hh⟩ hst
 rw [hI] at hst
 obtain ⟨i, v, o, rfl, hi, ⟨k3, k9, k10, k11, hl⟩, hm, hv, hx, ho⟩ := hst
 simp only at k3 k9 k10 k11 hl hm hv hx
 obtain rfl := hm
 by_cases cd : i < c.names.length
 ·obtain ⟨n, hn⟩ : ∃ n, c.names[i]? = some n := ⟨_, List.getElem?_eq_getElem cd⟩
  have hn2 := mem_sum (List.mem_of_getElem? hn)
  have ia := zYat (h := Hh) (k := .i64) hn
  have wr := wrap64 (n := (i : Int) + 1) (by omega) (by omega)
  have hby := fun H => kZ2 n (by omega) H
  have hq := fun H => kZZ 2 120 (by omega) (n.map fun b => b.toNat) (by rw [List.length_map]; omega) (by
   intro u hu
   obtain ⟨b, _, rfl⟩ := List.mem_map.1 hu
   have := b.toNat_lt
   omega) H
  have e120 : (((120 : UInt8).toNat : Nat) : Int) = 120 := rfl
  have e2 : (((2 : Nat)) : Int) = 2 := rfl
  have eq : quoteU 2 120 (n.map fun b => b.toNat) = quoteB n := rfl
  simp only [e120, e2, List.map_map, eq] at hq hby
  have hbs := bs1 Hh (.str ⟨#[]⟩) (T (quoteB n)) ⟨rfl, rfl⟩
  obtain ⟨v', o', H2, ha, hv2, hl2, hrest, hnew⟩ := hv.add (by_ := 16) (es := [cT (quoteB n)]) (plainT [quoteB n]) (by simp only [List.length_map, List.length_take, List.length_cons, List.length_nil]; unfold roomB; omega)
  simp only [cT, List.length_cons, List.length_nil] at ha
  simp [zZG.b7, zZG.r3, zZG.r4, zZG.r5, zZG.r6, k3, k9, k10, k11, hl, cd, ia, cT, hby, hq, hbs, ha, wr]
  refine ⟨c.names.length - (i + 1), by omega, ?_⟩
  rw [hI]
  refine ⟨i + 1, v', o', rfl, by omega, ⟨by simp [hl], by simp [k9, cT], by simp [k10], by simp [hl], by simp [hl]⟩, rfl, ?_, ⟨Nat.le_trans hx.1 hl2, fun j hj => ?_⟩, fun id hid => ?_⟩
  ·rw [List.take_add_one, hn]
   simpa using hv2
  ·rw [hrest j (by have := hx.1; omega) (fun e => by have := ho j e; omega), hx.2 j hj]
  ·rcases hnew id hid with h | h
   ·exact ho id h
   ·have := hx.1; omega
 ·have hie : i = c.names.length := by omega
  rw [hie, List.take_length] at hv
  have q4 := jnq_len c.names
  have hj := join_call (H := Hh) hv (by rw [List.length_map]; omega) (by omega)
  have a1 := add_T (a := [91]) (b := jn (c.names.map quoteB)) (by simp only [List.length_cons, List.length_nil]; omega)
  have a2 := add_T (a := 91 :: jn (c.names.map quoteB)) (b := [93]) (by simp only [List.length_cons, List.length_nil]; omega)
  have hf := hPi (T (91 :: (jn (c.names.map quoteB) ++ [93]))) Hh ⟨rfl, hx⟩
  simp only [List.cons_append, List.nil_append] at a1 a2
  simp [zZG.b7, zZG.r3, zZG.r8, k3, k9, k10, k11, hl, cd, hj, a1, a2, hf]
/-! ### The table of the fields -/
def fR (k : Nat) (b : Nat) : V := .agg [.fn (.func (if k < 5 then qZO.k else qZH.k)) [] [.ptr b 0], .fn (.func (if k < 5 then qZF.k else qZr.k)) [] [.ptr b 0]]
def fM (n : Nat) : List (V × V × Nat) :=
  [(.int .i32 65, fR 0 (n + 1), 0), (.int .i32 66, fR 1 (n + 3), 1), (.int .i32 67, fR 2 (n + 5), 2), (.int .i32 78, fR 3 (n + 7), 3), (.int .i32 77, fR 4 (n + 9), 4), (.int .i32 83, fR 5 (n + 11), 5), (.int .i32 84, fR 6 (n + 13), 6),
   (.int .i32 68, .agg [qZo, qZe], 7), (.int .i32 76, .agg [zZK, qZz], 8), (.int .i32 75, .agg [zZG, qZn], 9), (.int .i32 89, .agg [qZf, qZa], 10)]
def fB (k : Nat) : V := if k = 0 then qZs else if k = 1 then qZt else if k = 2 then qZu else if k = 3 then qZv else if k = 4 then qZw else if k = 5 then qZx else qZy
def fO (n : Nat) : Heap := [.map (fM n) 11, .cells [fB 0], .cells [.fn (.func qZO.k) [] [.ptr (n + 1) 0], .fn (.func qZF.k) [] [.ptr (n + 1) 0]], .cells [fB 1], .cells [.fn (.func qZO.k) [] [.ptr (n + 3) 0], .fn (.func qZF.k) [] [.ptr (n + 3) 0]],
 .cells [fB 2], .cells [.fn (.func qZO.k) [] [.ptr (n + 5) 0], .fn (.func qZF.k) [] [.ptr (n + 5) 0]], .cells [fB 3], .cells [.fn (.func qZO.k) [] [.ptr (n + 7) 0], .fn (.func qZF.k) [] [.ptr (n + 7) 0]],
 .cells [fB 4], .cells [.fn (.func qZO.k) [] [.ptr (n + 9) 0], .fn (.func qZF.k) [] [.ptr (n + 9) 0]], .cells [fB 5], .cells [.fn (.func qZH.k) [] [.ptr (n + 11) 0], .fn (.func qZr.k) [] [.ptr (n + 11) 0]],
 .cells [fB 6], .cells [.fn (.func qZH.k) [] [.ptr (n + 13) 0], .fn (.func qZr.k) [] [.ptr (n + 13) 0]]]
theorem fields3 (a b c : Ob) : evCall Φ 20 qZG [] [a, b, c] = some (.map 3, [a, b, c] ++ fO 3) := by kernel_rfl
end Go.Proofs.Sc
