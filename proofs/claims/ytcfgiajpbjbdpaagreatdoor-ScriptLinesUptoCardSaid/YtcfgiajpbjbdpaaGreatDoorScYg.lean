/- The book's reading of a field. No conditions. -/
import Derived.Test.YtcfgiajpbjbdpaaGreatDoorScYf
set_option maxHeartbeats 16000000
set_option maxRecDepth 100000
set_option linter.unusedVariables false
set_option linter.unusedSimpArgs false
set_option linter.unusedSectionVars false
namespace Go.Proofs.Sc
open Go Go.Ev
def rdR (s : Bs) (o : Option (Cmd × Bs)) (r : V) : Prop := match o with
 | some (c', rest) => r = .tup [.agg (cC c'), .int .i64 (s.length - rest.length : Nat), .bool true]
 | none => ∃ (c' : Cmd) (e : Nat), r = .tup [.agg (cC c'), .int .i64 e, .bool false]
theorem zYaK (s : Bs) (a : Nat) (f : UInt8) (c : Cmd) (hz : s.length < 2 ^ 40) (hal : a ≤ s.length) (hfl : f ∈ letters) (hyes : f = 89 → c.yes = false) (H : Heap) : ∃ r, callW Φ zZh [T s, .int .i64 a, .int .u8 f.toNat, .agg (cC c)] H = some (r, H) ∧ (rdR s (rd f c (s.drop a))) r := by
 refine zYah zZh.Φ rfl (args := [T s, .int .i64 a, .int .u8 f.toNat, .agg (cC c)]) rfl ?_
 obtain ⟨P, hP⟩ : ∃ P : V → Heap → Prop, P = fun r h2 => ∃ r2 h3, fz fzDepth h2 r = some (r2, h3) ∧ (rdR s (rd f c (s.drop a))) r2 := ⟨_, rfl⟩
 suffices hgo : ∃ r h', evBodyW (callW Φ) zZh.c [T s, .int .i64 a, .int .u8 f.toNat, .agg (cC c)] [] = some (r, h') ∧ P r h' by rw [hP] at hgo; exact hgo
 have hPz : ∀ r r2 h2 h3, fz fzDepth h2 r = some (r2, h3) → (rdR s (rd f c (s.drop a))) r2 → P r h2 := fun r r2 h2 h3 hz hq => by rw [hP]; exact ⟨r2, h3, hz, hq⟩
 clear hP
 refine xZ4 (Nat.le_of_ble_eq_true rfl) (fun env he h0 => ?_)
 have g0 := h0 0 (by simp)
 change eget env 0 = T s at g0
 have g1 := h0 1 (by simp)
 change eget env 1 = .int .i64 a at g1
 have g2 := h0 2 (by simp)
 change eget env 2 = .int .u8 f.toNat at g2
 have g3 := h0 3 (by simp)
 change eget env 3 = .agg (cC c) at g3
 clear h0
 simp [zZh.c] at he
 have hcc : ∀ c, (V.agg (cC c)).cells = cC c := fun c => rfl
 have b0 : evBox [] (cC c) = some (.ptr 0 0, [.cells (cC c)]) := jZU [] _ (by simp [V.isCell])
 have ok : ∀ c H, okCells H (some 12) (some (cC c)) = some (.agg (cC c), H) := fun c H => rfl
 have c0 : ∀ (c : Cmd) off, cellsAt [.cells (cC c), .cells z12] (.ptr 0 off) = some ((cC c).drop off) := fun c off => rfl
 have s12 : ∀ d : Cmd, evStoreV [.cells (cC d), .cells z12] 12 (.ptr 1 0) (.agg (cC d)) = some (V.non, [.cells (cC d), .cells (cC d)]) := fun d => by
  have hall : (cC d).all V.isCell = true := rfl
  unfold evStoreV
  rw [hcc, hall]
  simp [evStore, setRange]
 have c1 : ∀ (d : Cmd) (o : Ob), cellsAt [o, .cells (cC d)] (.ptr 1 0) = some (cC d) := fun d o => rfl
 have st : ∀ (off : Nat) (x : V) (d : Cmd), off < 12 → x.isCell = true ∧ x.cells = [x] → (cC c).set off x = cC d → evStoreV [.cells (cC c), .cells z12] 1 (.ptr 0 off) x = some (V.non, [.cells (cC d), .cells z12]) := fun off x d ho hx hd => by
  have := vZo (H := [.cells (cC c), .cells z12]) (id := 0) (off := off) (x := x) (cs := cC c) rfl (by simpa using ho) hx
  rw [hd] at this
  exact this
 have fin : ∀ (d : Cmd) (e : Nat) (b : Bool) (env : List V), env.length = 137 → eget env 1 = .int .i64 e → eget env 7 = .ptr 0 0 → eget env 8 = .ptr 1 0 → eget env 13 = .bool b → rdR s (rd f c (s.drop a)) (.tup [.agg (cC d), .int .i64 e, .bool b]) →
   WK (callW Φ) none (FinX [.cell 8 (some 12), .tmp 9, .tmp 10] P) [It.o zZh.r41, It.c .ret] { env := env, marks := [], heap := [.cells (cC d), .cells z12] } := by
  intro d e b env he k1 k7 k8 k13 hq
  have hf := hPz (.tup [.agg (cC d), .int .i64 e, .bool b]) _ [.cells (cC d), .cells (cC d)] _ (wZl rfl) hq
  simp [zZh.r41, k1, k7, k8, k13, he, c0, ok, s12, c1, ofCells, hf]
 simp only [letters, List.mem_cons, List.not_mem_nil, or_false] at hfl
 rcases hfl with rfl | rfl | rfl | rfl | rfl | rfl | rfl | rfl | rfl | rfl | rfl
 ·have hf : ((((65 : UInt8).toNat : Nat)) : Int) = 65 := rfl
  rw [hf] at g2
  obtain ⟨n, e, b, hc, hq⟩ : ∃ (n : Int) (e : Nat) (b : Bool), (∀ h, callW Φ zZA [T s, .int .i64 a] h = some (.tup [.int .i64 n, .int .i64 e, .bool b], h)) ∧ rdR s (rd 65 c (s.drop a)) (.tup [.agg (cC { c with a := n }), .int .i64 e, .bool b]) := by
   refine ⟨_, _, _, fun h => xZ0 s a hz hal h, ?_⟩
   show rdR s ((number (s.drop a)).map fun q => ({ c with a := q.1 }, q.2)) _
   cases hm : number (s.drop a) with
   | none => exact ⟨_, _, rfl⟩
   | some q => rfl
  have s1 := st 1 (.int .i64 n) { c with a := n } (by omega) ⟨rfl, rfl⟩ rfl
  simp [zZh.c, zZh.r0, zZh.r1, zZh.r2, zZh.r3, zZh.r4, zZh.r5, zZh.r10, zZh.r26, zZh.r27, zZh.r28, g0, g1, g2, g3, he, V.isCell, hcc, b0, hc, evExt, s1]
  exact fin { c with a := n } e b _ (by simp [he]) (by simp [he]) (by simp [he]) (by simp [he]) (by simp [he]) hq
 ·have hf : ((((66 : UInt8).toNat : Nat)) : Int) = 66 := rfl
  rw [hf] at g2
  obtain ⟨n, e, b, hc, hq⟩ : ∃ (n : Int) (e : Nat) (b : Bool), (∀ h, callW Φ zZA [T s, .int .i64 a] h = some (.tup [.int .i64 n, .int .i64 e, .bool b], h)) ∧ rdR s (rd 66 c (s.drop a)) (.tup [.agg (cC { c with b := n }), .int .i64 e, .bool b]) := by
   refine ⟨_, _, _, fun h => xZ0 s a hz hal h, ?_⟩
   show rdR s ((number (s.drop a)).map fun q => ({ c with b := q.1 }, q.2)) _
   cases hm : number (s.drop a) with
   | none => exact ⟨_, _, rfl⟩
   | some q => rfl
  have s1 := st 2 (.int .i64 n) { c with b := n } (by omega) ⟨rfl, rfl⟩ rfl
  simp [zZh.c, zZh.r0, zZh.r1, zZh.r2, zZh.r3, zZh.r4, zZh.r5, zZh.r6, zZh.r10, zZh.r26, zZh.r27, zZh.r29, zZh.r30, g0, g1, g2, g3, he, V.isCell, hcc, b0, hc, evExt, s1]
  exact fin { c with b := n } e b _ (by simp [he]) (by simp [he]) (by simp [he]) (by simp [he]) (by simp [he]) hq
 ·have hf : ((((67 : UInt8).toNat : Nat)) : Int) = 67 := rfl
  rw [hf] at g2
  obtain ⟨n, e, b, hc, hq⟩ : ∃ (n : Int) (e : Nat) (b : Bool), (∀ h, callW Φ zZA [T s, .int .i64 a] h = some (.tup [.int .i64 n, .int .i64 e, .bool b], h)) ∧ rdR s (rd 67 c (s.drop a)) (.tup [.agg (cC { c with c := n }), .int .i64 e, .bool b]) := by
   refine ⟨_, _, _, fun h => xZ0 s a hz hal h, ?_⟩
   show rdR s ((number (s.drop a)).map fun q => ({ c with c := q.1 }, q.2)) _
   cases hm : number (s.drop a) with
   | none => exact ⟨_, _, rfl⟩
   | some q => rfl
  have s1 := st 3 (.int .i64 n) { c with c := n } (by omega) ⟨rfl, rfl⟩ rfl
  simp [zZh.c, zZh.r0, zZh.r1, zZh.r2, zZh.r3, zZh.r4, zZh.r5, zZh.r6, zZh.r7, zZh.r10, zZh.r26, zZh.r27, zZh.r29, zZh.r31, zZh.r32, g0, g1, g2, g3, he, V.isCell, hcc, b0, hc, evExt, s1]
  exact fin { c with c := n } e b _ (by simp [he]) (by simp [he]) (by simp [he]) (by simp [he]) (by simp [he]) hq
 ·have hf : ((((78 : UInt8).toNat : Nat)) : Int) = 78 := rfl
  rw [hf] at g2
  obtain ⟨n, e, b, hc, hq⟩ : ∃ (n : Int) (e : Nat) (b : Bool), (∀ h, callW Φ zZA [T s, .int .i64 a] h = some (.tup [.int .i64 n, .int .i64 e, .bool b], h)) ∧ rdR s (rd 78 c (s.drop a)) (.tup [.agg (cC { c with n := n }), .int .i64 e, .bool b]) := by
   refine ⟨_, _, _, fun h => xZ0 s a hz hal h, ?_⟩
   show rdR s ((number (s.drop a)).map fun q => ({ c with n := q.1 }, q.2)) _
   cases hm : number (s.drop a) with
   | none => exact ⟨_, _, rfl⟩
   | some q => rfl
  have s1 := st 4 (.int .i64 n) { c with n := n } (by omega) ⟨rfl, rfl⟩ rfl
  simp [zZh.c, zZh.r0, zZh.r1, zZh.r2, zZh.r3, zZh.r4, zZh.r5, zZh.r6, zZh.r7, zZh.r8, zZh.r10, zZh.r26, zZh.r27, zZh.r29, zZh.r31, zZh.r33, zZh.r34, g0, g1, g2, g3, he, V.isCell, hcc, b0, hc, evExt, s1]
  exact fin { c with n := n } e b _ (by simp [he]) (by simp [he]) (by simp [he]) (by simp [he]) (by simp [he]) hq
 ·have hf : ((((77 : UInt8).toNat : Nat)) : Int) = 77 := rfl
  rw [hf] at g2
  obtain ⟨n, e, b, hc, hq⟩ : ∃ (n : Int) (e : Nat) (b : Bool), (∀ h, callW Φ zZA [T s, .int .i64 a] h = some (.tup [.int .i64 n, .int .i64 e, .bool b], h)) ∧ rdR s (rd 77 c (s.drop a)) (.tup [.agg (cC { c with m := n }), .int .i64 e, .bool b]) := by
   refine ⟨_, _, _, fun h => xZ0 s a hz hal h, ?_⟩
   show rdR s ((number (s.drop a)).map fun q => ({ c with m := q.1 }, q.2)) _
   cases hm : number (s.drop a) with
   | none => exact ⟨_, _, rfl⟩
   | some q => rfl
  have s1 := st 5 (.int .i64 n) { c with m := n } (by omega) ⟨rfl, rfl⟩ rfl
  simp [zZh.c, zZh.r0, zZh.r1, zZh.r2, zZh.r3, zZh.r4, zZh.r5, zZh.r6, zZh.r7, zZh.r8, zZh.r9, zZh.r10, zZh.r26, zZh.r27, zZh.r29, zZh.r31, zZh.r33, zZh.r35, zZh.r36, g0, g1, g2, g3, he, V.isCell, hcc, b0, hc, evExt, s1]
  exact fin { c with m := n } e b _ (by simp [he]) (by simp [he]) (by simp [he]) (by simp [he]) (by simp [he]) hq
 ·have hf : ((((83 : UInt8).toNat : Nat)) : Int) = 83 := rfl
  rw [hf] at g2
  obtain ⟨t, e, b, hc, hq⟩ : ∃ (t : Bs) (e : Nat) (b : Bool), (∀ h, callW Φ qZp [T s, .int .i64 a] h = some (.tup [T t, .int .i64 e, .bool b], h)) ∧ rdR s (rd 83 c (s.drop a)) (.tup [.agg (cC { c with s := t }), .int .i64 e, .bool b]) := by
   obtain ⟨r, h1, h2⟩ := zYaa s a hz hal []
   have h3 : ∀ h, callW Φ qZp [T s, .int .i64 a] h = some (r, h) := fun h => wZ3 (h0 := []) (h0' := []) qZp.Φ rfl (args := [T s, .int .i64 a]) («as» := [T s, .int .i64 a]) rfl rfl h1
   show ∃ (t : Bs) (e : Nat) (b : Bool), _ ∧ rdR s ((textR (s.drop a)).map fun q => ({ c with s := q.1 }, q.2)) _
   cases hm : textR (s.drop a) with
   | none =>
    rw [hm] at h2
    obtain ⟨t, e, rfl⟩ := h2
    exact ⟨t, e, false, h3, _, _, rfl⟩
   | some q =>
    rw [hm] at h2
    exact ⟨q.1, _, true, fun h => by rw [h3 h]; exact congrArg (fun x => some (x, h)) h2, rfl⟩
  have s1 := st 6 (T t) { c with s := t } (by omega) ⟨rfl, rfl⟩ rfl
  simp [zZh.c, zZh.r0, zZh.r1, zZh.r2, zZh.r3, zZh.r4, zZh.r5, zZh.r6, zZh.r7, zZh.r8, zZh.r9, zZh.r11, zZh.r13, zZh.r26, zZh.r27, zZh.r29, zZh.r31, zZh.r33, zZh.r35, zZh.r37, zZh.r38, g0, g1, g2, g3, he, V.isCell, hcc, b0, hc, evExt, s1]
  exact fin { c with s := t } e b _ (by simp [he]) (by simp [he]) (by simp [he]) (by simp [he]) (by simp [he]) hq
 ·have hf : ((((84 : UInt8).toNat : Nat)) : Int) = 84 := rfl
  rw [hf] at g2
  obtain ⟨t, e, b, hc, hq⟩ : ∃ (t : Bs) (e : Nat) (b : Bool), (∀ h, callW Φ qZp [T s, .int .i64 a] h = some (.tup [T t, .int .i64 e, .bool b], h)) ∧ rdR s (rd 84 c (s.drop a)) (.tup [.agg (cC { c with t := t }), .int .i64 e, .bool b]) := by
   obtain ⟨r, h1, h2⟩ := zYaa s a hz hal []
   have h3 : ∀ h, callW Φ qZp [T s, .int .i64 a] h = some (r, h) := fun h => wZ3 (h0 := []) (h0' := []) qZp.Φ rfl (args := [T s, .int .i64 a]) («as» := [T s, .int .i64 a]) rfl rfl h1
   show ∃ (t : Bs) (e : Nat) (b : Bool), _ ∧ rdR s ((textR (s.drop a)).map fun q => ({ c with t := q.1 }, q.2)) _
   cases hm : textR (s.drop a) with
   | none =>
    rw [hm] at h2
    obtain ⟨t, e, rfl⟩ := h2
    exact ⟨t, e, false, h3, _, _, rfl⟩
   | some q =>
    rw [hm] at h2
    exact ⟨q.1, _, true, fun h => by rw [h3 h]; exact congrArg (fun x => some (x, h)) h2, rfl⟩
  have s1 := st 7 (T t) { c with t := t } (by omega) ⟨rfl, rfl⟩ rfl
  simp [zZh.c, zZh.r0, zZh.r1, zZh.r2, zZh.r3, zZh.r4, zZh.r5, zZh.r6, zZh.r7, zZh.r8, zZh.r9, zZh.r11, zZh.r12, zZh.r13, zZh.r26, zZh.r27, zZh.r29, zZh.r31, zZh.r33, zZh.r35, zZh.r37, zZh.r39, zZh.r40, g0, g1, g2, g3, he, V.isCell, hcc, b0, hc, evExt, s1]
  exact fin { c with t := t } e b _ (by simp [he]) (by simp [he]) (by simp [he]) (by simp [he]) (by simp [he]) hq
 ·have hf : ((((68 : UInt8).toNat : Nat)) : Int) = 68 := rfl
  rw [hf] at g2
  obtain ⟨l, e, b, hc, hq⟩ : ∃ (l : List Nat) (e : Nat) (b : Bool), (∀ h, callW Φ zZD [T s, .int .i64 a, .int .u8 117, .int .i64 4] h = some (.tup [.arr (l.map cU), .int .i64 e, .bool b], h)) ∧ rdR s (rd 68 c (s.drop a)) (.tup [.agg (cC { c with data := l }), .int .i64 e, .bool b]) := by
   obtain ⟨r, h1, h2⟩ := zYae 4 117 65536 (by omega) (by decide) (by omega) (by omega) (by omega) (by decide) s a hz hal []
   have e4 : (((4 : Nat)) : Int) = 4 := rfl
   simp only [q117, e4] at h1
   have h3 : ∀ h, callW Φ zZD [T s, .int .i64 a, .int .u8 117, .int .i64 4] h = some (r, h) := fun h => wZ3 (h0 := []) (h0' := []) zZD.Φ rfl (args := [T s, .int .i64 a, .int .u8 117, .int .i64 4]) («as» := [T s, .int .i64 a, .int .u8 117, .int .i64 4]) rfl rfl h1
   show ∃ (l : List Nat) (e : Nat) (b : Bool), _ ∧ rdR s ((unquote 4 117 (s.drop a)).map fun q => ({ c with data := q.1 }, q.2)) _
   cases hm : unquote 4 117 (s.drop a) with
   | none =>
    rw [hm] at h2
    obtain ⟨l, e, rfl, _⟩ := h2
    exact ⟨l, e, false, h3, _, _, rfl⟩
   | some q =>
    rw [hm] at h2
    exact ⟨q.1, _, true, fun h => by rw [h3 h]; exact congrArg (fun x => some (x, h)) h2, rfl⟩
  have s1 := st 8 (.arr (l.map cU)) { c with data := l } (by omega) ⟨rfl, rfl⟩ rfl
  simp [zZh.c, zZh.r0, zZh.r1, zZh.r2, zZh.r3, zZh.r4, zZh.r5, zZh.r6, zZh.r7, zZh.r8, zZh.r9, zZh.r11, zZh.r12, zZh.r14, zZh.r15, zZh.r26, zZh.r27, zZh.r29, zZh.r31, zZh.r33, zZh.r35, zZh.r37, zZh.r39, g0, g1, g2, g3, he, V.isCell, hcc, b0, hc, evExt, s1]
  exact fin { c with data := l } e b _ (by simp [he]) (by simp [he]) (by simp [he]) (by simp [he]) (by simp [he]) hq
 ·have hf : ((((76 : UInt8).toNat : Nat)) : Int) = 76 := rfl
  rw [hf] at g2
  obtain ⟨l, k, e, b, hc, hq⟩ : ∃ (l : List Int) (k : List Bs) (e : Nat) (b : Bool), (∀ h, callW Φ zZH [T s, .int .i64 a, .bool false] h = some (.tup [.arr (l.map cI), .arr (k.map cT), .int .i64 e, .bool b], h)) ∧ rdR s (rd 76 c (s.drop a)) (.tup [.agg (cC { c with list := l }), .int .i64 e, .bool b]) := by
   obtain ⟨r, h1, h2⟩ := listI_spec s a hz hal []
   have h3 : ∀ h, callW Φ zZH [T s, .int .i64 a, .bool false] h = some (r, h) := fun h => wZ3 (h0 := []) (h0' := []) zZH.Φ rfl (args := [T s, .int .i64 a, .bool false]) («as» := [T s, .int .i64 a, .bool false]) rfl rfl h1
   show ∃ (l : List Int) (k : List Bs) (e : Nat) (b : Bool), _ ∧ rdR s ((items number (s.drop a) []).map fun q => ({ c with list := q.1 }, q.2)) _
   cases hm : items number (s.drop a) [] with
   | none =>
    rw [hm] at h2
    obtain ⟨l, k, e, rfl⟩ := h2
    exact ⟨l, k, e, false, h3, _, _, rfl⟩
   | some q =>
    rw [hm] at h2
    exact ⟨q.1, [], _, true, fun h => by rw [h3 h]; exact congrArg (fun x => some (x, h)) h2, rfl⟩
  have s1 := st 9 (.arr (l.map cI)) { c with list := l } (by omega) ⟨rfl, rfl⟩ rfl
  simp [zZh.c, zZh.r0, zZh.r1, zZh.r2, zZh.r3, zZh.r4, zZh.r5, zZh.r6, zZh.r7, zZh.r8, zZh.r9, zZh.r11, zZh.r12, zZh.r14, zZh.r16, zZh.r17, zZh.r26, zZh.r27, zZh.r29, zZh.r31, zZh.r33, zZh.r35, zZh.r37, zZh.r39, g0, g1, g2, g3, he, V.isCell, hcc, b0, hc, evExt, s1]
  exact fin { c with list := l } e b _ (by simp [he]) (by simp [he]) (by simp [he]) (by simp [he]) (by simp [he]) hq
 ·have hf : ((((75 : UInt8).toNat : Nat)) : Int) = 75 := rfl
  rw [hf] at g2
  obtain ⟨l, k, e, b, hc, hq⟩ : ∃ (l : List Int) (k : List Bs) (e : Nat) (b : Bool), (∀ h, callW Φ zZH [T s, .int .i64 a, .bool true] h = some (.tup [.arr (l.map cI), .arr (k.map cT), .int .i64 e, .bool b], h)) ∧ rdR s (rd 75 c (s.drop a)) (.tup [.agg (cC { c with names := k }), .int .i64 e, .bool b]) := by
   obtain ⟨r, h1, h2⟩ := listN_spec s a hz hal []
   have h3 : ∀ h, callW Φ zZH [T s, .int .i64 a, .bool true] h = some (r, h) := fun h => wZ3 (h0 := []) (h0' := []) zZH.Φ rfl (args := [T s, .int .i64 a, .bool true]) («as» := [T s, .int .i64 a, .bool true]) rfl rfl h1
   show ∃ (l : List Int) (k : List Bs) (e : Nat) (b : Bool), _ ∧ rdR s ((items textR (s.drop a) []).map fun q => ({ c with names := q.1 }, q.2)) _
   cases hm : items textR (s.drop a) [] with
   | none =>
    rw [hm] at h2
    obtain ⟨l, k, e, rfl⟩ := h2
    exact ⟨l, k, e, false, h3, _, _, rfl⟩
   | some q =>
    rw [hm] at h2
    exact ⟨[], q.1, _, true, fun h => by rw [h3 h]; exact congrArg (fun x => some (x, h)) h2, rfl⟩
  have s1 := st 10 (.arr (k.map cT)) { c with names := k } (by omega) ⟨rfl, rfl⟩ rfl
  simp [zZh.c, zZh.r0, zZh.r1, zZh.r2, zZh.r3, zZh.r4, zZh.r5, zZh.r6, zZh.r7, zZh.r8, zZh.r9, zZh.r11, zZh.r12, zZh.r14, zZh.r16, zZh.r18, zZh.r19, zZh.r26, zZh.r27, zZh.r29, zZh.r31, zZh.r33, zZh.r35, zZh.r37, zZh.r39, g0, g1, g2, g3, he, V.isCell, hcc, b0, hc, evExt, s1]
  exact fin { c with names := k } e b _ (by simp [he]) (by simp [he]) (by simp [he]) (by simp [he]) (by simp [he]) hq
 ·have hf : ((((89 : UInt8).toNat : Nat)) : Int) = 89 := rfl
  rw [hf] at g2
  have hy := hyes rfl
  have w3 := wrap64 (n := (a : Int) + 3) (by omega) (by omega)
  have w2 := wrap64 (n := (a : Int) + 2) (by omega) (by omega)
  have cT0 : cellsAt [.cells (cC { c with yes := true }), .cells z12] (.ptr 0 11) = some [.bool true] := rfl
  have cF0 : cellsAt [.cells (cC { c with yes := false }), .cells z12] (.ptr 0 11) = some [.bool false] := rfl
  have sT := st 11 (.bool true) { c with yes := true } (by omega) ⟨rfl, rfl⟩ rfl
  have sF := st 11 (.bool false) { c with yes := false } (by omega) ⟨rfl, rfl⟩ rfl
  have hsl : ∀ (n : Nat) (h : Heap), a + n ≤ s.length → sliceV .s h 1 (T s) (some (.int .i64 (a : Int))) (some (.int .i64 ((a : Int) + n))) = some (T ((s.drop a).take n)) := fun n h hn => by
   have := slice_T (h := h) (l := s) (k := .i64) (k' := .i64) (a := (a : Int)) (b := (a : Int) + n) (by omega) (by omega) (by omega)
   rw [this, Int.toNat_natCast, show ((a : Int) + n).toNat = a + n by omega, List.take_drop]
  have hsl3 := fun h => hsl 3 h
  have hsl2 := fun h => hsl 2 h
  have e3 : (((3 : Nat)) : Int) = 3 := rfl
  have e2 : (((2 : Nat)) : Int) = 2 := rfl
  simp only [e3, e2] at hsl3 hsl2
  have by3 : ∀ l : Bs, beqS ⟨l.toArray⟩ ⟨#[121, 101, 115]⟩ = (l == [121, 101, 115]) := fun l => T_beq l [121, 101, 115]
  have by2 : ∀ l : Bs, beqS ⟨l.toArray⟩ ⟨#[110, 111]⟩ = (l == [110, 111]) := fun l => T_beq l [110, 111]
  have hrd : rd 89 c (s.drop a) = (yesR (s.drop a)).map fun q => ({ c with yes := q.1 }, q.2) := rfl
  have second : ∀ env : List V, env.length = 137 → eget env 0 = T s → eget env 1 = .int .i64 a → eget env 2 = .int .u8 89 → eget env 7 = .ptr 0 0 → eget env 8 = .ptr 1 0 → eget env 13 = .bool true → ¬ (s.drop a).take 3 = [121, 101, 115] →
    WK (callW Φ) none (FinX [.cell 8 (some 12), .tmp 9, .tmp 10] P) [It.o zZh.r23, It.c (.cond (.t 34) (.region zZh.r24) (.region zZh.r25)), It.b 1, It.b 0, It.c (.seq (xS zZh.r26 (.block 2 (xS zZh.r27 (.cond (.t 106) (.region zZh.r28) (xS zZh.r29 (.cond (.t 110) (.region zZh.r30) (xS zZh.r31 (.cond (.t 114) (.region zZh.r32) (xS zZh.r33 (.cond (.t 118) (.region zZh.r34) (xS zZh.r35 (.cond (.t 122) (.region zZh.r36) (xS zZh.r37 (.cond (.t 126) (.region zZh.r38) (xS zZh.r39 (.cond (.t 130) (.region zZh.r40) .skip)))))))))))))))) (xS zZh.r41 .ret))] { env := env, marks := [], heap := [.cells (cC { c with yes := false }), .cells z12] } := by
   intro env he k0 k1 k2 k7 k8 k13 n3
   by_cases l2 : a + 2 ≤ s.length
   ·have l2' : (a : Int) + 2 ≤ (s.length : Int) := by omega
    have hs2 := fun h => hsl2 h l2
    by_cases h2 : (s.drop a).take 2 = [110, 111]
    ·have q2 : ((s.drop a).take 2 == [110, 111]) = true := by simpa using h2
     have hyr : yesR (s.drop a) = some (false, (s.drop a).drop 2) := by unfold yesR; rw [if_neg n3, if_pos h2]
     have hq : rdR s (rd 89 c (s.drop a)) (.tup [.agg (cC { c with yes := false }), .int .i64 ((a + 2 : Nat) : Int), .bool true]) := by
      rw [hrd, hyr]
      show _ = _
      simp only [List.length_drop]
      rw [show s.length - (s.length - a - 2) = a + 2 by omega]
     have ea : ((a + 2 : Nat) : Int) = (a : Int) + 2 := by omega
     simp [zZh.r23, zZh.r24, zZh.r26, zZh.r27, zZh.r29, zZh.r31, zZh.r33, zZh.r35, zZh.r37, zZh.r39, k0, k1, k2, k7, k8, k13, he, vZm, w2, l2', hs2, by2, q2, evPick]
     exact fin { c with yes := false } (a + 2) true _ (by simp [he]) (by simp [he, ea]) (by simp [k7]) (by simp [k8]) (by simp [k13]) hq
    ·have q2 : ((s.drop a).take 2 == [110, 111]) = false := by simpa using h2
     have hyr : yesR (s.drop a) = none := by unfold yesR; rw [if_neg n3, if_neg h2]
     have hq : rdR s (rd 89 c (s.drop a)) (.tup [.agg (cC { c with yes := false }), .int .i64 a, .bool false]) := by
      rw [hrd, hyr]; exact ⟨_, _, rfl⟩
     simp [zZh.r23, zZh.r25, zZh.r26, zZh.r27, zZh.r29, zZh.r31, zZh.r33, zZh.r35, zZh.r37, zZh.r39, k0, k1, k2, k7, k8, k13, he, vZm, w2, l2', hs2, by2, q2, evPick]
     exact fin { c with yes := false } a false _ (by simp [he]) (by simp [k1]) (by simp [k7]) (by simp [k8]) (by simp [he]) hq
   ·have l2' : ¬ (a : Int) + 2 ≤ (s.length : Int) := by omega
    have h2 : ¬ (s.drop a).take 2 = [110, 111] := fun h => by
     have := congrArg List.length h
     rw [List.length_take, List.length_drop] at this
     simp at this
     omega
    have hyr : yesR (s.drop a) = none := by unfold yesR; rw [if_neg n3, if_neg h2]
    have hq : rdR s (rd 89 c (s.drop a)) (.tup [.agg (cC { c with yes := false }), .int .i64 a, .bool false]) := by
     rw [hrd, hyr]; exact ⟨_, _, rfl⟩
    simp [zZh.r23, zZh.r25, zZh.r26, zZh.r27, zZh.r29, zZh.r31, zZh.r33, zZh.r35, zZh.r37, zZh.r39, k0, k1, k2, k7, k8, k13, he, vZm, w2, l2', evPick]
    exact fin { c with yes := false } a false _ (by simp [he]) (by simp [k1]) (by simp [k7]) (by simp [k8]) (by simp [he]) hq
  by_cases l3 : a + 3 ≤ s.length
  ·have l3' : (a : Int) + 3 ≤ (s.length : Int) := by omega
   have hs3 := fun h => hsl3 h l3
   by_cases h3 : (s.drop a).take 3 = [121, 101, 115]
   ·have q3 : ((s.drop a).take 3 == [121, 101, 115]) = true := by simpa using h3
    have hyr : yesR (s.drop a) = some (true, (s.drop a).drop 3) := by unfold yesR; rw [if_pos h3]
    have hq : rdR s (rd 89 c (s.drop a)) (.tup [.agg (cC { c with yes := true }), .int .i64 ((a + 3 : Nat) : Int), .bool true]) := by
     rw [hrd, hyr]
     show _ = _
     simp only [List.length_drop]
     rw [show s.length - (s.length - a - 3) = a + 3 by omega]
    have ea : ((a + 3 : Nat) : Int) = (a : Int) + 3 := by omega
    simp [zZh.c, zZh.r0, zZh.r1, zZh.r2, zZh.r3, zZh.r4, zZh.r5, zZh.r6, zZh.r7, zZh.r8, zZh.r9, zZh.r11, zZh.r12, zZh.r14, zZh.r16, zZh.r18, zZh.r20, zZh.r21, zZh.r22, zZh.r26, zZh.r27, zZh.r29, zZh.r31, zZh.r33, zZh.r35, zZh.r37, zZh.r39, g0, g1, g2, g3, he, V.isCell, hcc, b0, vZm, w3, l3', hs3, by3, q3, evPick, sT, cT0]
    exact fin { c with yes := true } (a + 3) true _ (by simp [he]) (by simp [he, ea]) (by simp [he]) (by simp [he]) (by simp [he]) hq
   ·have q3 : ((s.drop a).take 3 == [121, 101, 115]) = false := by simpa using h3
    simp [zZh.c, zZh.r0, zZh.r1, zZh.r2, zZh.r3, zZh.r4, zZh.r5, zZh.r6, zZh.r7, zZh.r8, zZh.r9, zZh.r11, zZh.r12, zZh.r14, zZh.r16, zZh.r18, zZh.r20, zZh.r21, g0, g1, g2, g3, he, V.isCell, hcc, b0, vZm, w3, l3', hs3, by3, q3, evPick, sF, cF0]
    exact second _ (by simp [he]) (by simp [g0]) (by simp [g1]) (by simp [g2]) (by simp [he]) (by simp [he]) (by simp [he]) h3
  ·have l3' : ¬ (a : Int) + 3 ≤ (s.length : Int) := by omega
   have h3 : ¬ (s.drop a).take 3 = [121, 101, 115] := fun h => by
    have := congrArg List.length h
    rw [List.length_take, List.length_drop] at this
    simp at this
    omega
   simp [zZh.c, zZh.r0, zZh.r1, zZh.r2, zZh.r3, zZh.r4, zZh.r5, zZh.r6, zZh.r7, zZh.r8, zZh.r9, zZh.r11, zZh.r12, zZh.r14, zZh.r16, zZh.r18, zZh.r20, zZh.r21, g0, g1, g2, g3, he, V.isCell, hcc, b0, vZm, w3, l3', evPick, sF, cF0]
   exact second _ (by simp [he]) (by simp [g0]) (by simp [g1]) (by simp [g2]) (by simp [he]) (by simp [he]) (by simp [he]) h3
end Go.Proofs.Sc
