/- Texts, functions called; small letters, qualified names. Attributes by names: found, read. No conditions. -/
import Derived.Test.YtaeklgflchhmfaaGreatDoorItZg
import Derived.Test.YtaeklgflchhmfaaGreatDoorAqBeg
set_option maxHeartbeats 16000000
set_option maxRecDepth 100000
set_option linter.unusedVariables false
set_option linter.unusedSimpArgs false
set_option linter.unusedSectionVars false
namespace Go.Proofs.It
open Go Go.Ev
abbrev Bs := List UInt8
abbrev T (l : Bs) : V := .str ⟨l.toArray⟩
theorem xZG (l : Bs) : (⟨l.toArray⟩ : ByteArray).size = l.length := by simp [ByteArray.size]
theorem T_list (l : Bs) : (⟨l.toArray⟩ : ByteArray).data.toList = l := by simp
theorem T_beq (a b : Bs) : beqS ⟨a.toArray⟩ ⟨b.toArray⟩ = (a == b) := by simp [beqS]
theorem T_get (l : Bs) (n : Nat) : (⟨l.toArray⟩ : ByteArray)[n]? = l[n]? := by
 by_cases h : n < l.length
 ·have h2 : n < (⟨l.toArray⟩ : ByteArray).size := by rw [xZG]; exact h
  rw [getElem?_pos _ n h2, List.getElem?_eq_getElem h]
  rfl
 ·have h2 : ¬ n < (⟨l.toArray⟩ : ByteArray).size := by rw [xZG]; exact h
  rw [getElem?_neg _ n h2, List.getElem?_eq_none (by omega)]
section
variable {h : Heap}
theorem len_T (l : Bs) : evLen h .s (T l) = some (.int .i64 l.length, h) := by rw [len_str, xZG]
theorem beq_T (a b : Bs) : binV .eql (T a) (T b) = some (.bool (a == b)) := by rw [bin_seql, T_beq]
theorem bne_T (a b : Bs) : binV .neq (T a) (T b) = some (.bool (!(a == b))) := by rw [bin_sneq, T_beq]
end
theorem vZw {f : FuncId} {cf : Cf} (hf : Φ f = some cf) (hp : cf.pure = true) {args : List V} {h : Heap} {r' : V} (ha : args.all flatN2 = true)
  (hb : ∃ r h2, evBodyW (callW Φ) cf (args.map nz2) [] = some (r, h2) ∧ ∃ h3, fz fzDepth h2 r = some (r', h3)) : callW Φ (.fn (.func f) [] []) args h = some (r', h) := by
 obtain ⟨r, h2, hb, h3, hz⟩ := hb
 refine jZW hf hp (h1 := h) («as» := args.map nz2) ?_ hb hz
 simp only [List.nil_append, List.append_nil]
 exact jZH fun x hx => vZe (List.all_eq_true.1 ha x hx)
theorem vZN (H : Heap) (cs : List V) (off : Nat) : cellsAt (H ++ [.cells cs]) (.ptr H.length off) = some (cs.drop off) := by simp [cellsAt]
theorem store_last (H : Heap) (cs ys : List V) (off : Nat) : evStore (H ++ [.cells cs]) (.ptr H.length off) ys = (setRange cs off ys).map fun cs' => (V.non, H ++ [.cells cs']) := by
 simp only [evStore, List.getElem?_concat_length, qZW]
 cases setRange cs off ys <;> simp
theorem jZT (H : Heap) (cs : List V) (hc : cs.all V.isCell = true) : evBox H cs = some (.ptr H.length 0, H ++ [.cells cs]) := by simp [evBox, hc, qZ4]
def cT (l : Bs) : List V := [T l]
theorem iaddr_cT {h : Heap} {l : List Bs} {k : IntKind} {i : Nat} {u : Bs} (hx : l[i]? = some u) : iaddrV h 1 (.arr (l.map cT)) (.int k i) = some (.iptr (cT u)) := qZU (enc := cT) (fun _ => rfl) hx
theorem store_cell {H : Heap} {id off : Nat} {cs : List V} {x : V} (h : H[id]? = some (.cells cs)) (ho : off < cs.length) (hx : x.isCell = true ∧ x.cells = [x]) : evStoreV H 1 (.ptr id off) x = some (V.non, H.set id (.cells (cs.set off x))) := by
 have : setRange cs off [x] = some (cs.set off x) := by
  unfold setRange
  rw [if_pos (by simp; omega), List.set_eq_take_append_cons_drop, if_pos ho]
  simp
 simp [evStoreV, hx.1, hx.2, evStore, h, this]
theorem jZz {H : Heap} {id : Nat} {cs : List V} (h : H[id]? = some (.cells cs)) (off : Nat) : cellsAt H (.ptr id off) = some (cs.drop off) := by simp [cellsAt, h]
theorem callW_fzP {f : FuncId} {cf : Cf} (hf : Φ f = some cf) (hp : cf.pure = true) {args : List V} {h : Heap} {Q : V → Prop} (ha : args.all flatN2 = true)
  (hb : ∃ r h2, evBodyW (callW Φ) cf (args.map nz2) [] = some (r, h2) ∧ ∃ r2 h3, fz fzDepth h2 r = some (r2, h3) ∧ Q r2) : ∃ r, callW Φ (.fn (.func f) [] []) args h = some (r, h) ∧ Q r := by
 obtain ⟨r, h2, hb, r2, h3, hz, hq⟩ := hb
 exact ⟨r2, vZw hf hp ha ⟨r, h2, hb, h3, hz⟩, hq⟩
theorem WO_of_WK {call : CallF} {l : List Cp} {s : St} {R : St → Prop} (h : WK call none (fun e s' => e = .normal ∧ R s') [.o l] s) : ∃ s1, WO call l s (fun r => r = s1) ∧ R s1 := by
 simp only [WK] at h
 obtain ⟨s1, h1, _, h2⟩ := h
 exact ⟨s1, ⟨s1, h1, rfl⟩, h2⟩
theorem WO_eq {call : CallF} {a : List Cp} {s s1 : St} {Q : St → Prop} (h : WO call a s (fun r => r = s1)) (hq : Q s1) : WO call a s Q := by
 obtain ⟨_, h1, rfl⟩ := h
 exact ⟨_, h1, hq⟩
theorem kDrawW {call : CallF} {rnd : Option Nat} {Q : Ex → St → Prop} {s : St} {k : List It} {ops : List Cp} {af : List (List Nat)} {fl l : List Nat} {ls : List (List Nat)} (h : orders2 ops af ops.length (List.replicate ops.length false) = some (l :: ls))
  (hw : WK call none (fun e r => e = .normal ∧ (∀ l' ∈ ls, WK call none (fun e' r' => e' = .normal ∧ r' = r) [.o (l'.filterMap (ops[·]?))] s) ∧ WK call rnd Q k r) [.o (l.filterMap (ops[·]?))] s) : WK call rnd Q (.c (.draw ops af fl) :: k) s := by
 obtain ⟨s1, h1, h2, h3⟩ := WO_of_WK hw
 exact kDraw2 h (WO_eq h1 ⟨fun l' hl' => by
  obtain ⟨s2, h4, rfl⟩ := WO_of_WK (h2 l' hl')
  exact h4, h3⟩)
theorem eqc_bf {h : Heap} (x y : Bool) : evEqc h false (.leaf .b) (.bool x) (.bool y) = some (.bool (x == y), h) := by cases x <;> cases y <;> rfl
theorem jZY {f : FuncId} {cf : Cf} (hf : Φ f = some cf) (hp : cf.pure = false) {caps args : List V} {h : Heap} {P : V → Heap → Prop} (hn : (args ++ caps).length ≤ cf.ntmps)
  (hw : ∀ env : List V, env.length = cf.ntmps → (∀ i, i < (args ++ caps).length → eget env i = eget (args ++ caps) i) → WK (callW Φ) none (FinX cf.results P) [.c cf.body] { env := env, marks := [], heap := h }) :
  ∃ r h', callW Φ (.fn (.func f) [] caps) args h = some (r, h') ∧ P r h' := by
 obtain ⟨r, h', h1, h2⟩ := vZU (call := callW Φ) (cf := cf) (P := P) hn hw
 refine ⟨r, h', kZW hf hp ?_, h2⟩
 simpa using h1
theorem get_set {H : Heap} {p : Nat} {a : List V} (h : H[p]? = some (.cells a)) (b : List V) : (H.set p (.cells b))[p]? = some (.cells b) := by
 rw [List.getElem?_set_self (List.getElem?_eq_some_iff.1 h).1]
theorem store_at {H : Heap} {id n : Nat} {A B : List V} (h : H[id]? = some (.cells B)) (ha : A.length = n) (hb : B.length = n) (hc : A.all V.isCell = true) : evStoreV H n (.ptr id 0) (.agg A) = some (V.non, H.set id (.cells A)) := by
 have hsr : setRange B 0 A = some A := by
  unfold setRange
  rw [if_pos (by omega), Nat.zero_add, List.drop_eq_nil_of_le (by omega)]
  simp
 simp only [evStoreV, V.cells, ha, hc, and_self, if_true, evStore, h, hsr, qZW]
theorem kEnv {call : CallF} {rnd : Option Nat} {Q : Ex → St → Prop} {k : List It} {env : List V} {mk : List Nat} {H : Heap} (h : ∀ env2 : List V, env2 = env → WK call rnd Q k { env := env2, marks := mk, heap := H }) : WK call rnd Q k { env := env, marks := mk, heap := H } := h _ rfl
theorem jZM {H : Heap} {cs : List V} {n : Nat} (x : V) (hl : cs.length = n) (h1 : x.cells.length = n) (h2 : x.cells.all V.isCell = true) : evStoreV (H ++ [.cells cs]) n (.ptr H.length 0) x = some (V.non, H ++ [.cells x.cells]) := by
 have hsr : setRange cs 0 x.cells = some x.cells := by
  unfold setRange
  rw [if_pos (by omega), Nat.zero_add, List.drop_eq_nil_of_le (by omega)]
  simp
 simp only [evStoreV, h1, h2, and_self, if_true, evStore, List.getElem?_concat_length, hsr, qZW]
 simp
def cY (b : UInt8) : List V := [.int .u8 b.toNat]
theorem T_bytes (l : Bs) : bytesOf ⟨l.toArray⟩ = l.map cY := by simp [bytesOf, cY]
theorem byteOf_cY (l : Bs) : byteOfCells (l.map cY) = some l := by
 induction l with
 | nil => rfl
 | cons b l ih => simp [cY, byteOfCells] at ih ⊢; exact ih
theorem plainY (l : Bs) : plainR 1 (l.map cY) := plainR.map (enc := cY) (fun _ => rfl) (fun _ => rfl) (fun _ => rfl) l
theorem xZM {H : Heap} {v : V} {o : Option Nat} {l : Bs} (hv : VL H 1 v o (l.map cY)) : evConv H .bytesStr v = some (T l, H) := by
 have hb : bytesIn H v = some (l.map cY) := by
  rcases hv with ⟨rfl | rfl, hl, _⟩ | ⟨id, ep, _, rfl, hr, _⟩
  ·simp [bytesIn, elemsOf, hl]
  ·simp [bytesIn, elemsOf, hl]
  ·simp [bytesIn, elemsOf, hr, List.take_of_length_le]
 simp [evConv, hb, byteOf_cY, okV]
theorem xZT (l : Bs) (H : Heap) (h : l.length ≤ roomB) : evConv H .strBytes (T l) = some (.sl H.length 0 0 l.length, H ++ [.row 1 (l.map cY) 0 true]) := by
 simp only [evConv, xZG, Nat.mul_one, h, if_true, qZ4, T_bytes]
/-! ### Small letters -/
def low (b : UInt8) : UInt8 := if 65 ≤ b.toNat ∧ b.toNat ≤ 90 then b + 32 else b
def mid (l : Bs) (i : Nat) : Bs := (l.take i).map low ++ l.drop i
theorem mid_len (l : Bs) (i : Nat) : (mid l i).length = l.length := by simp [mid]; omega
theorem mid_at {l : Bs} {i : Nat} {b : UInt8} (h : l[i]? = some b) : (mid l i)[i]? = some b := by
 have := (List.getElem?_eq_some_iff.1 h).1
 simp only [mid]
 rw [List.getElem?_append_right (by simp; omega)]
 have : i - (List.map low (l.take i)).length = 0 := by simp; omega
 rw [this]; simpa using h
theorem mid_next {l : Bs} {i : Nat} {b : UInt8} (h : l[i]? = some b) : mid l (i + 1) = (mid l i).set i (low b) := by
 have hi := (List.getElem?_eq_some_iff.1 h).1
 simp only [mid]
 rw [List.take_add_one, h, List.set_append_right _ _ (by simp; omega), vZI h]
 have : i - (List.map low (l.take i)).length = 0 := by simp; omega
 rw [this]; simp
theorem set_map {α β : Type} (f : α → β) (l : List α) (i : Nat) (x : α) : (l.map f).set i (f x) = (l.set i x).map f := by rw [List.map_set]
theorem set_same {l : Bs} {i : Nat} {b : UInt8} (h : l[i]? = some b) : l.set i b = l := by
 obtain ⟨h1, rfl⟩ := List.getElem?_eq_some_iff.1 h
 simp
def lowS (s : ByteArray) : ByteArray := ⟨(s.data.toList.map low).toArray⟩
theorem str_T (s : ByteArray) : V.str s = T s.data.toList := by simp
theorem low_nat {b : UInt8} (h : 65 ≤ b.toNat ∧ b.toNat ≤ 90) : ((low b).toNat : Int) = (b.toNat : Int) + 32 := by
 have : (low b).toNat = b.toNat + 32 := by
  simp only [low, h, and_self, if_true, UInt8.toNat_add]
  have : (32 : UInt8).toNat = 32 := rfl
  omega
 omega
theorem low_u (l : Bs) (hz : l.length ≤ roomB) (H : Heap) : callW Φ zZx [T l] H = some (T (l.map low), H) := by
 refine vZw zZx.Φ rfl (args := [T l]) rfl ?_
 obtain ⟨P, hP⟩ : ∃ P : V → Heap → Prop, P = fun r h2 => ∃ h3, fz fzDepth h2 r = some (T (l.map low), h3) := ⟨_, rfl⟩
 suffices hgo : ∃ r h', evBodyW (callW Φ) zZx.c [T l] [] = some (r, h') ∧ P r h' by rw [hP] at hgo; exact hgo
 have hPz : ∀ r h2 h3, fz fzDepth h2 r = some (T (l.map low), h3) → P r h2 := fun r h2 h3 hz => by rw [hP]; exact ⟨h3, hz⟩
 have hPn : ∀ r h2, flatN2 r = true → nz2 r = T (l.map low) → P r h2 := fun r h2 h h1 => hPz r h2 h2 (by rw [← h1]; exact vZe h)
 clear hP
 refine vZU (Nat.le_of_ble_eq_true rfl) (fun env he h0 => ?_)
 have g0 := h0 0 (by simp)
 change eget env 0 = T l at g0
 clear h0
 simp [zZx.c] at he
 have hz' : l.length ≤ 140737488355328 := hz
 obtain ⟨H0, hH⟩ : ∃ H0 : Heap, H0 = [.row 1 (l.map cY) 0 true] := ⟨_, rfl⟩
 have cv := xZT l [] hz
 simp only [List.nil_append, List.length_nil] at cv
 rw [← hH] at cv
 have v0 : VL H0 1 (.sl 0 0 0 l.length) (some 0) ((mid l 0).map cY) := .inr ⟨0, 0, rfl, by simp [mid_len], by rw [hH]; simp [mid], plainY _⟩
 have hlen : ∀ X : Heap, evLen X .l (.sl 0 0 0 l.length) = some (.int .i64 l.length, X) := fun X => by simp [evLen, lenV, qZ5]
 clear hH
 simp [zZx.c, zZx.r0, zZx.r1, zZx.r2, zZx.r9, g0, he, cv, hlen]
 refine kLoop (fun m s => ∃ i : Nat, m = l.length - i ∧ i ≤ l.length ∧ eget s.env 3 = .sl 0 0 0 l.length ∧ eget s.env 8 = .sl 0 0 0 l.length ∧ eget s.env 9 = .int .i64 l.length ∧ eget s.env 10 = .int .i64 i ∧ s.env.length = 30 ∧ s.marks = [] ∧ ∃ ep, VL s.heap 1 (.sl 0 ep 0 l.length) (some 0) ((mid l i).map cY) ∧ ep = 0) l.length
  ⟨0, rfl, by omega, by simp [he], by simp [he], by simp [he], by simp [he], by simpa using he, rfl, 0, v0, rfl⟩ ?_
 rintro m ⟨env, mk, S⟩ ⟨i, rfl, hi, k3, k8, k9, k10, hl, hm, _, hv, rfl⟩
 simp only at k3 k8 k9 k10 hl hm hv
 obtain rfl := hm
 by_cases c : i < l.length
 ·have c1 : (i : Int) < l.length := by omega
  obtain ⟨x, hx⟩ : ∃ x, l[i]? = some x := ⟨_, List.getElem?_eq_getElem c⟩
  have hxn := x.toNat_lt
  have wr := wrap64 (n := (i : Int) + 1) (by omega) (by omega)
  have hm := mid_at hx
  obtain ⟨id, ep, h1, ia, ca⟩ := hv.at (k := .i64) (n := (i : Int)) (by omega) (e := cY x) (by simp [hm])
  have ca0 := ca 0
  simp only [List.drop_zero, Int.toNat_natCast] at ca0 ia
  have hmn := mid_next hx
  by_cases c2 : 65 ≤ x.toNat ∧ x.toNat ≤ 90
  ·have d1 : (65 : Int) ≤ x.toNat := by omega
   have d2 : (x.toNat : Int) ≤ 90 := by omega
   have w1 := wrap8 (n := (x.toNat : Int) + 97) (by omega) (by omega)
   have w2 := wrap8 (n := (x.toNat : Int) + 97 - 65) (by omega) (by omega)
   have hlow := low_nat c2
   have e2 : (x.toNat : Int) + 97 - 65 = (low x).toNat := by omega
   rw [e2] at w2
   obtain ⟨id', ep', S', h1', ia', st, hv', _, _⟩ := hv.put (k := .i64) (n := (i : Int)) (by omega) (by simp [mid_len]; omega) (x := .int .u8 (low x).toNat) ⟨rfl, rfl, rfl⟩
   simp only [Int.toNat_natCast] at ia' st hv'
   obtain rfl : id = id' := by rw [h1] at h1'; exact Option.some.inj h1'
   rw [ia] at ia'
   obtain rfl : ep = ep' := by simpa using ia'
   have ev : ((mid l i).map cY).set i (V.int .u8 (low x).toNat).cells = (mid l (i + 1)).map cY := by rw [hmn, ← set_map]; rfl
   rw [ev] at hv'
   simp [zZx.b8, zZx.r3, zZx.r4, zZx.r5, zZx.r6, zZx.r7, k3, k8, k9, k10, hl, c1, ia, ca0, cY, okCells, okV, d1, d2, evPick, w1, e2, w2, st, wr]
   exact ⟨l.length - (i + 1), by omega, i + 1, rfl, by omega, by simp, hv'⟩
  ·have e : low x = x := by simp [low, c2]
   rw [e, set_same hm] at hmn
   rw [← hmn] at hv
   by_cases d1 : (65 : Int) ≤ x.toNat
   ·have d2 : ¬ (x.toNat : Int) ≤ 90 := by omega
    simp [zZx.b8, zZx.r3, zZx.r4, zZx.r5, zZx.r6, zZx.r7, k3, k8, k9, k10, hl, c1, ia, ca0, cY, okCells, okV, d1, d2, evPick, wr]
    exact ⟨l.length - (i + 1), by omega, i + 1, rfl, by omega, by simp, hv⟩
   ·simp [zZx.b8, zZx.r3, zZx.r4, zZx.r5, zZx.r6, zZx.r7, k3, k8, k9, k10, hl, c1, ia, ca0, cY, okCells, okV, d1, evPick, wr]
    exact ⟨l.length - (i + 1), by omega, i + 1, rfl, by omega, by simp, hv⟩
 ·have c1 : ¬ (i : Int) < l.length := by omega
  have e : mid l i = l.map low := by simp [mid, List.take_of_length_le (show l.length ≤ i by omega), List.drop_eq_nil_of_le (show l.length ≤ i by omega)]
  rw [e] at hv
  have bc := xZM hv
  have := hPn (T (l.map low)) S rfl rfl
  simp [zZx.c, zZx.r0, zZx.r1, zZx.r2, zZx.r9, zZx.b8, zZx.r3, zZx.r4, zZx.r5, zZx.r6, zZx.r7, k3, k8, k9, k10, hl, c1, bc, this]
theorem low_r (l : Bs) (hz : l.length ≤ roomB) (H : Heap) : callW Φ zZC [T l] H = some (T (l.map low), H) := by
 refine vZw zZC.Φ rfl (args := [T l]) rfl ?_
 obtain ⟨P, hP⟩ : ∃ P : V → Heap → Prop, P = fun r h2 => ∃ h3, fz fzDepth h2 r = some (T (l.map low), h3) := ⟨_, rfl⟩
 suffices hgo : ∃ r h', evBodyW (callW Φ) zZC.c [T l] [] = some (r, h') ∧ P r h' by rw [hP] at hgo; exact hgo
 have hPz : ∀ r h2 h3, fz fzDepth h2 r = some (T (l.map low), h3) → P r h2 := fun r h2 h3 hz => by rw [hP]; exact ⟨h3, hz⟩
 have hPn : ∀ r h2, flatN2 r = true → nz2 r = T (l.map low) → P r h2 := fun r h2 h h1 => hPz r h2 h2 (by rw [← h1]; exact vZe h)
 clear hP
 refine vZU (Nat.le_of_ble_eq_true rfl) (fun env he h0 => ?_)
 have g0 := h0 0 (by simp)
 change eget env 0 = T l at g0
 clear h0
 simp [zZC.c] at he
 have hz' : l.length ≤ 140737488355328 := hz
 obtain ⟨H0, hH⟩ : ∃ H0 : Heap, H0 = [.row 1 (l.map cY) 0 true] := ⟨_, rfl⟩
 have cv := xZT l [] hz
 simp only [List.nil_append, List.length_nil] at cv
 rw [← hH] at cv
 have v0 : VL H0 1 (.sl 0 0 0 l.length) (some 0) ((mid l 0).map cY) := .inr ⟨0, 0, rfl, by simp [mid_len], by rw [hH]; simp [mid], plainY _⟩
 have hlen : ∀ X : Heap, evLen X .l (.sl 0 0 0 l.length) = some (.int .i64 l.length, X) := fun X => by simp [evLen, lenV, qZ5]
 clear hH
 simp [zZC.c, zZC.r0, zZC.r1, zZC.r2, zZC.r8, g0, he, cv, hlen]
 refine kLoop (fun m s => ∃ i : Nat, m = l.length - i ∧ i ≤ l.length ∧ eget s.env 3 = .sl 0 0 0 l.length ∧ eget s.env 4 = .int .i64 i ∧ s.env.length = 35 ∧ s.marks = [] ∧ ∃ ep, VL s.heap 1 (.sl 0 ep 0 l.length) (some 0) ((mid l i).map cY) ∧ ep = 0) l.length
  ⟨0, rfl, by omega, by simp [he], by simp [he], by simpa using he, rfl, 0, v0, rfl⟩ ?_
 rintro m ⟨env, mk, S⟩ ⟨i, rfl, hi, k3, k4, hl, hm, _, hv, rfl⟩
 simp only at k3 k4 hl hm hv
 obtain rfl := hm
 by_cases c : i < l.length
 ·have c1 : (i : Int) < l.length := by omega
  obtain ⟨x, hx⟩ : ∃ x, l[i]? = some x := ⟨_, List.getElem?_eq_getElem c⟩
  have hxn := x.toNat_lt
  have wr := wrap64 (n := (i : Int) + 1) (by omega) (by omega)
  have hm := mid_at hx
  obtain ⟨id, ep, h1, ia, ca⟩ := hv.at (k := .i64) (n := (i : Int)) (by omega) (e := cY x) (by simp [hm])
  have ca0 := ca 0
  simp only [List.drop_zero, Int.toNat_natCast] at ca0 ia
  have hmn := mid_next hx
  by_cases c2 : 65 ≤ x.toNat ∧ x.toNat ≤ 90
  ·have d1 : (65 : Int) ≤ x.toNat := by omega
   have d2 : (x.toNat : Int) ≤ 90 := by omega
   have hlow := low_nat c2
   have w1 := wrap8 (n := (x.toNat : Int) + 32) (by omega) (by omega)
   rw [← hlow] at w1
   obtain ⟨id', ep', S', h1', ia', st, hv', _, _⟩ := hv.put (k := .i64) (n := (i : Int)) (by omega) (by simp [mid_len]; omega) (x := .int .u8 (low x).toNat) ⟨rfl, rfl, rfl⟩
   simp only [Int.toNat_natCast] at ia' st hv'
   obtain rfl : id = id' := by rw [h1] at h1'; exact Option.some.inj h1'
   rw [ia] at ia'
   obtain rfl : ep = ep' := by simpa using ia'
   have ev : ((mid l i).map cY).set i (V.int .u8 (low x).toNat).cells = (mid l (i + 1)).map cY := by rw [hmn, ← set_map]; rfl
   rw [ev] at hv'
   simp [zZC.b7, zZC.r3, zZC.r4, zZC.r5, zZC.r6, k3, k4, hl, hlen, c1, ia, ca0, cY, okCells, okV, d1, d2, evPick, ← hlow, w1, st, wr]
   exact ⟨l.length - (i + 1), by omega, i + 1, rfl, by omega, by simp, hv'⟩
  ·have e : low x = x := by simp [low, c2]
   rw [e, set_same hm] at hmn
   rw [← hmn] at hv
   by_cases d1 : (65 : Int) ≤ x.toNat
   ·have d2 : ¬ (x.toNat : Int) ≤ 90 := by omega
    simp [zZC.b7, zZC.r3, zZC.r4, zZC.r5, zZC.r6, k3, k4, hl, hlen, c1, ia, ca0, cY, okCells, okV, d1, d2, evPick, wr]
    exact ⟨l.length - (i + 1), by omega, i + 1, rfl, by omega, by simp, hv⟩
   ·simp [zZC.b7, zZC.r3, zZC.r4, zZC.r5, zZC.r6, k3, k4, hl, hlen, c1, ia, ca0, cY, okCells, okV, d1, evPick, wr]
    exact ⟨l.length - (i + 1), by omega, i + 1, rfl, by omega, by simp, hv⟩
 ·have c1 : ¬ (i : Int) < l.length := by omega
  have e : mid l i = l.map low := by simp [mid, List.take_of_length_le (show l.length ≤ i by omega), List.drop_eq_nil_of_le (show l.length ≤ i by omega)]
  rw [e] at hv
  have bc := xZM hv
  have := hPn (T (l.map low)) S rfl rfl
  simp [zZC.c, zZC.r0, zZC.r1, zZC.r2, zZC.r8, zZC.b7, zZC.r3, zZC.r4, zZC.r5, zZC.r6, k3, k4, hl, hlen, c1, bc, this]
/-! ### Qualified names -/
def qual (n : Nm) : ByteArray := if beqS n.pr ⟨#[]⟩ then n.lo else n.pr ++ ⟨#[58]⟩ ++ n.lo
structure SzN (n : Nm) : Prop where
 pr : n.pr.size < 2 ^ 50
 lo : n.lo.size < 2 ^ 50
theorem add_str {a b : ByteArray} (h : a.size + b.size < 2 ^ 60) : binV .add (.str a) (.str b) = some (.str (a ++ b)) := by
 have : ¬ (((a.size + b.size : Nat) : Int) > IntKind.i64.max) := by
  have : IntKind.i64.max = 9223372036854775807 := rfl
  omega
 simp only [binV, this, if_false]
theorem vZ1 (n : Nm) (z : SzN n) (H : Heap) : callW Φ zZL [.agg [.str n.sp, .str n.pr, .str n.lo]] H = some (.str (qual n), H) := by
 refine vZw zZL.Φ rfl (args := [.agg [.str n.sp, .str n.pr, .str n.lo]]) rfl ?_
 obtain ⟨P, hP⟩ : ∃ P : V → Heap → Prop, P = fun r h2 => ∃ h3, fz fzDepth h2 r = some (.str (qual n), h3) := ⟨_, rfl⟩
 suffices hgo : ∃ r h', evBodyW (callW Φ) zZL.c [.agg [.str n.sp, .str n.pr, .str n.lo]] [] = some (r, h') ∧ P r h' by rw [hP] at hgo; exact hgo
 have hPz : ∀ r h2 h3, fz fzDepth h2 r = some (.str (qual n), h3) → P r h2 := fun r h2 h3 hz => by rw [hP]; exact ⟨h3, hz⟩
 have hPn : ∀ r h2, flatN2 r = true → nz2 r = .str (qual n) → P r h2 := fun r h2 h h1 => hPz r h2 h2 (by rw [← h1]; exact vZe h)
 clear hP
 refine vZU (Nat.le_of_ble_eq_true rfl) (fun env he h0 => ?_)
 have g0 := h0 0 (by simp)
 change eget env 0 = .agg [.str n.sp, .str n.pr, .str n.lo] at g0
 clear h0
 simp [zZL.c] at he
 obtain ⟨z1, z2⟩ := z
 have cc : ∀ off, cellsAt [Ob.cells [V.str n.sp, .str n.pr, .str n.lo]] (.ptr 0 off) = some ([V.str n.sp, .str n.pr, .str n.lo].drop off) := fun off => rfl
 have a1 : binV .add (.str n.pr) (.str ⟨#[58]⟩) = some (.str (n.pr ++ ⟨#[58]⟩)) := add_str (by have : (⟨#[58]⟩ : ByteArray).size = 1 := rfl; omega)
 have a2 : binV .add (.str (n.pr ++ ⟨#[58]⟩)) (.str n.lo) = some (.str (n.pr ++ ⟨#[58]⟩ ++ n.lo)) := add_str (by have : (⟨#[58]⟩ : ByteArray).size = 1 := rfl; rw [ByteArray.size_append]; omega)
 have fin := hPn (.str (qual n)) [Ob.cells [V.str n.sp, .str n.pr, .str n.lo]] rfl rfl
 cases c : beqS n.pr ⟨#[]⟩
 ·have e : qual n = n.pr ++ ⟨#[58]⟩ ++ n.lo := by simp [qual, c]
  rw [e] at fin
  simp [zZL.c, zZL.r0, zZL.r1, zZL.r2, zZL.r3, g0, he, evBox, V.cells, V.isCell, cc, okCells, okV, ofCells, c, a1, a2, fin]
 ·have e : qual n = n.lo := by simp [qual, c]
  rw [e] at fin
  simp [zZL.c, zZL.r0, zZL.r1, zZL.r2, zZL.r3, g0, he, evBox, V.cells, V.isCell, cc, okCells, okV, ofCells, c, fin]
theorem vZ3 (n : Nm) (z : SzN n) (H : Heap) : callW Φ zZM [.agg [.str n.sp, .str n.pr, .str n.lo]] H = some (.str (qual n), H) := by
 refine vZw zZM.Φ rfl (args := [.agg [.str n.sp, .str n.pr, .str n.lo]]) rfl ?_
 obtain ⟨P, hP⟩ : ∃ P : V → Heap → Prop, P = fun r h2 => ∃ h3, fz fzDepth h2 r = some (.str (qual n), h3) := ⟨_, rfl⟩
 suffices hgo : ∃ r h', evBodyW (callW Φ) zZM.c [.agg [.str n.sp, .str n.pr, .str n.lo]] [] = some (r, h') ∧ P r h' by rw [hP] at hgo; exact hgo
 have hPz : ∀ r h2 h3, fz fzDepth h2 r = some (.str (qual n), h3) → P r h2 := fun r h2 h3 hz => by rw [hP]; exact ⟨h3, hz⟩
 have hPn : ∀ r h2, flatN2 r = true → nz2 r = .str (qual n) → P r h2 := fun r h2 h h1 => hPz r h2 h2 (by rw [← h1]; exact vZe h)
 clear hP
 refine vZU (Nat.le_of_ble_eq_true rfl) (fun env he h0 => ?_)
 have g0 := h0 0 (by simp)
 change eget env 0 = .agg [.str n.sp, .str n.pr, .str n.lo] at g0
 clear h0
 simp [zZM.c] at he
 obtain ⟨z1, z2⟩ := z
 have cc : ∀ off, cellsAt [Ob.cells [V.str n.sp, .str n.pr, .str n.lo]] (.ptr 0 off) = some ([V.str n.sp, .str n.pr, .str n.lo].drop off) := fun off => rfl
 have a1 : binV .add (.str n.pr) (.str ⟨#[58]⟩) = some (.str (n.pr ++ ⟨#[58]⟩)) := add_str (by have : (⟨#[58]⟩ : ByteArray).size = 1 := rfl; omega)
 have a2 : binV .add (.str (n.pr ++ ⟨#[58]⟩)) (.str n.lo) = some (.str (n.pr ++ ⟨#[58]⟩ ++ n.lo)) := add_str (by have : (⟨#[58]⟩ : ByteArray).size = 1 := rfl; rw [ByteArray.size_append]; omega)
 have fin := hPn (.str (qual n)) [Ob.cells [V.str n.sp, .str n.pr, .str n.lo]] rfl rfl
 cases c : beqS n.pr ⟨#[]⟩
 ·have e : qual n = n.pr ++ ⟨#[58]⟩ ++ n.lo := by simp [qual, c]
  rw [e] at fin
  simp [zZM.c, zZM.r0, zZM.r1, zZM.r2, zZM.r3, g0, he, evBox, V.cells, V.isCell, cc, okCells, okV, ofCells, c, a1, a2, fin]
 ·have e : qual n = n.lo := by simp [qual, c]
  rw [e] at fin
  simp [zZM.c, zZM.r0, zZM.r1, zZM.r2, zZM.r3, g0, he, evBox, V.cells, V.isCell, cc, okCells, okV, ofCells, c, fin]
open Go Go.Ev
def Gr (H H' : Heap) : Prop := H.length ≤ H'.length ∧ ∀ j, j < H.length → H'[j]? = H[j]?
theorem Gr.rfl' (H : Heap) : Gr H H := ⟨Nat.le_refl _, fun _ _ => rfl⟩
theorem Gr.trans {H S T' : Heap} (h : Gr H S) (g : Gr S T') : Gr H T' := ⟨by have := h.1; have := g.1; omega, fun j hj => by rw [g.2 j (by have := h.1; omega), h.2 j hj]⟩
theorem Gr.push (H E : Heap) : Gr H (H ++ E) := ⟨by simp, fun j hj => List.getElem?_append_left hj⟩
theorem Gr.at {H S : Heap} (h : Gr H S) {j : Nat} {o : Ob} (hj : H[j]? = some o) : S[j]? = some o := by rw [h.2 j (List.getElem?_eq_some_iff.1 hj).1, hj]
theorem jZg (a : Atr) (z : SzN a.nm) (c : Nat) (q : ByteArray) (H : Heap) (hc : H[c]? = some (.cells [.str q])) : ∃ r h', callW Φ (.fn (.func zZZ.k) [] [.ptr c 0]) [.agg (cA a)] H = some (r, h') ∧ (fun r h' => r = .bool (beqS (qual a.nm) q) ∧ Gr H h') r h' := by
 obtain ⟨P, hP⟩ : ∃ P : V → Heap → Prop, P = fun r h' => r = .bool (beqS (qual a.nm) q) ∧ Gr H h' := ⟨_, rfl⟩
 suffices hgo : ∃ r h', callW Φ (.fn (.func zZZ.k) [] [.ptr c 0]) [.agg (cA a)] H = some (r, h') ∧ P r h' by rw [hP] at hgo; exact hgo
 have hPi : ∀ r h', (fun r h' => r = .bool (beqS (qual a.nm) q) ∧ Gr H h') r h' → P r h' := fun r h' q => by rw [hP]; exact q
 clear hP
 refine jZY zZZ.Φ rfl (Nat.le_of_ble_eq_true rfl) (fun env he h0 => ?_)
 have g0 := h0 0 (by simp)
 change eget env 0 = .agg (cA a) at g0
 have g1 := h0 1 (by simp)
 change eget env 1 = .ptr c 0 at g1
 clear h0
 simp [zZZ.c] at he
 have hcc : (V.agg (cA a)).cells = cA a := rfl
 have b0 : evBox H (cA a) = some (.ptr H.length 0, H ++ [.cells (cA a)]) := jZT _ _ rfl
 have cl : ∀ off, cellsAt (H ++ [.cells (cA a)]) (.ptr H.length off) = some ((cA a).drop off) := fun off => vZN _ _ _
 have cb : cellsAt (H ++ [.cells (cA a)]) (.ptr c 0) = some [.str q] := jZz ((Gr.push H _).at hc) 0
 have hq := vZ1 a.nm z (H ++ [.cells (cA a)])
 have fin := hPi (.bool (beqS (qual a.nm) q)) (H ++ [.cells (cA a)]) ⟨rfl, Gr.push _ _⟩
 have oq : ∀ X : Heap, okCells X none (some [V.str q]) = some (.str q, X) := fun X => rfl
 have oa := fun X => okAn X a
 simp only [eNm] at oa
 simp [zZZ.c, zZZ.r0, g0, g1, he, hcc, b0]
 refine kEnv fun env2 hE => ?_
 have j1 : eget env2 1 = .ptr c 0 := by rw [hE]; simp [g1]
 have j2 : eget env2 2 = .ptr H.length 0 := by rw [hE]; simp [he]
 have jl : env2.length = 9 := by rw [hE]; simp [he]
 clear hE
 refine kDrawW zZZ.r1.ord ?_
 simp [zZZ.r1, List.filterMap_cons, j1, j2, jl, cl, cb, oa, oq, hq, ofCells, fin]
 simp only [jZa, wZf, List.cons_append, List.nil_append]
 repeat' apply And.intro
 all_goals exact wZ8 _ rfl rfl rfl rfl
theorem jZb (a : Atr) (c d : Nat) (s l : ByteArray) (H : Heap) (hc : H[c]? = some (.cells [.str s])) (hd : H[d]? = some (.cells [.str l])) : ∃ r h', callW Φ (.fn (.func zZ6.k) [] [.ptr c 0, .ptr d 0]) [.agg (cA a)] H = some (r, h') ∧ (fun r h' => r = .bool (beqS a.nm.sp s && beqS a.nm.lo l) ∧ Gr H h') r h' := by
 obtain ⟨P, hP⟩ : ∃ P : V → Heap → Prop, P = fun r h' => r = .bool (beqS a.nm.sp s && beqS a.nm.lo l) ∧ Gr H h' := ⟨_, rfl⟩
 suffices hgo : ∃ r h', callW Φ (.fn (.func zZ6.k) [] [.ptr c 0, .ptr d 0]) [.agg (cA a)] H = some (r, h') ∧ P r h' by rw [hP] at hgo; exact hgo
 have hPi : ∀ r h', (fun r h' => r = .bool (beqS a.nm.sp s && beqS a.nm.lo l) ∧ Gr H h') r h' → P r h' := fun r h' q => by rw [hP]; exact q
 clear hP
 refine jZY zZ6.Φ rfl (Nat.le_of_ble_eq_true rfl) (fun env he h0 => ?_)
 have g0 := h0 0 (by simp)
 change eget env 0 = .agg (cA a) at g0
 have g1 := h0 1 (by simp)
 change eget env 1 = .ptr c 0 at g1
 have g2 := h0 2 (by simp)
 change eget env 2 = .ptr d 0 at g2
 clear h0
 simp [zZ6.c] at he
 have hcc : (V.agg (cA a)).cells = cA a := rfl
 have b0 : evBox H (cA a) = some (.ptr H.length 0, H ++ [.cells (cA a)]) := jZT _ _ rfl
 have cl : ∀ off, cellsAt (H ++ [.cells (cA a)]) (.ptr H.length off) = some ((cA a).drop off) := fun off => vZN _ _ _
 have cb : cellsAt (H ++ [.cells (cA a)]) (.ptr c 0) = some [.str s] := jZz ((Gr.push H _).at hc) 0
 have cd : cellsAt (H ++ [.cells (cA a)]) (.ptr d 0) = some [.str l] := jZz ((Gr.push H _).at hd) 0
 have oq : ∀ (X : Heap) (q : ByteArray), okCells X none (some [V.str q]) = some (.str q, X) := fun X q => rfl
 have fin := hPi (.bool (beqS a.nm.sp s && beqS a.nm.lo l)) (H ++ [.cells (cA a)]) ⟨rfl, Gr.push _ _⟩
 cases c1 : beqS a.nm.sp s <;> cases c2 : beqS a.nm.lo l <;> rw [c1, c2] at fin <;> simp only [Bool.and_self, Bool.and_false, Bool.and_true] at fin <;>
 simp [zZ6.c, zZ6.r0, zZ6.r1, g0, g1, g2, he, hcc, b0, cl, cb, cd, okA0, okA2, oq, ofCells, evPick, c1, c2, fin]
def idx (p : Atr → Bool) : List Atr → Nat → Int
 | [], _ => -1
 | a :: l, i => if p a then i else idx p l (i + 1)
theorem find_idx (n : Nm) : ∀ (l : List Atr) (i : Nat), find l n i = idx (fun a => beqS a.nm.sp n.sp && beqS a.nm.lo n.lo) l i
 | [], i => rfl
 | a :: l, i => by simp only [find, idx, find_idx n l]
theorem xZb (p : Atr → Bool) : ∀ (l : List Atr) (i : Nat), idx p l i = -1 ∨ ((i : Int) ≤ idx p l i ∧ idx p l i < i + l.length)
 | [], i => .inl rfl
 | a :: l, i => by
  simp only [idx, List.length_cons]
  split
  ·right; omega
  ·rcases xZb p l (i + 1) with h | h
   ·exact .inl h
   ·right; omega
def Tells1 (g : V) (p : Atr → Bool) (l : List Atr) (H : Heap) : Prop := ∀ a ∈ l, ∀ S, Gr H S → ∃ h', callW Φ g [.agg (cA a)] S = some (.bool (p a), h') ∧ Gr S h'
theorem ixA (l : List Atr) (p : Atr → Bool) (g : V) (H : Heap) (hz : l.length < 2 ^ 50) (hg : Tells1 g p l H) : ∃ r h', callW Φ (.fn (.func zZa.k) [] []) [.arr (l.map cA), g] H = some (r, h') ∧ (fun r h' => r = .int .i64 (idx p l 0) ∧ Gr H h') r h' := by
 obtain ⟨P, hP⟩ : ∃ P : V → Heap → Prop, P = fun r h' => r = .int .i64 (idx p l 0) ∧ Gr H h' := ⟨_, rfl⟩
 suffices hgo : ∃ r h', callW Φ (.fn (.func zZa.k) [] []) [.arr (l.map cA), g] H = some (r, h') ∧ P r h' by rw [hP] at hgo; exact hgo
 have hPi : ∀ r h', (fun r h' => r = .int .i64 (idx p l 0) ∧ Gr H h') r h' → P r h' := fun r h' q => by rw [hP]; exact q
 clear hP
 refine jZY zZa.Φ rfl (Nat.le_of_ble_eq_true rfl) (fun env he h0 => ?_)
 have g0 := h0 0 (by simp)
 change eget env 0 = .arr (l.map cA) at g0
 have g1 := h0 1 (by simp)
 change eget env 1 = g at g1
 clear h0
 simp [zZa.c] at he
 simp [zZa.c, zZa.r0, zZa.r1, zZa.r8, g0, g1, he, vZY]
 refine kLoop (fun m s => ∃ i : Nat, m = l.length - i ∧ i ≤ l.length ∧ eget s.env 0 = .arr (l.map cA) ∧ eget s.env 1 = g ∧ eget s.env 7 = .int .i64 l.length ∧ eget s.env 8 = .int .i64 i ∧ s.env.length = 19 ∧ s.marks = [] ∧ Gr H s.heap ∧ idx p l 0 = idx p (l.drop i) i) l.length
  ⟨0, rfl, by omega, by simpa using g0, by simpa using g1, by simp [he], by simp [he], by simpa using he, rfl, Gr.rfl' H, rfl⟩ ?_
 rintro m ⟨env, mk, S⟩ ⟨i, rfl, hi, k0, k1, k7, k8, hl, hm, hS, hw⟩
 simp only at k0 k1 k7 k8 hl hm hS
 obtain rfl := hm
 by_cases c : i < l.length
 ·have c1 : (i : Int) < l.length := by omega
  obtain ⟨x, hx⟩ : ∃ x, l[i]? = some x := ⟨_, List.getElem?_eq_getElem c⟩
  have ia := qZU (h := S) (k := .i64) wZr hx
  have wr := wrap64 (n := (i : Int) + 1) (by omega) (by omega)
  obtain ⟨h', hc, hg'⟩ := hg x (List.mem_of_getElem? hx) S hS
  rw [vZI hx] at hw
  simp only [idx] at hw
  cases cx : p x
  ·rw [cx] at hc hw
   simp only [Bool.false_eq_true, if_false] at hw
   simp [zZa.b7, zZa.r2, zZa.r3, zZa.r4, zZa.r5, zZa.r6, k0, k1, k7, k8, hl, c1, ia, okA, hc, wr]
   exact ⟨l.length - (i + 1), by omega, i + 1, rfl, by omega, by simp, hS.trans hg', hw⟩
  ·rw [cx] at hc hw
   simp only [if_true] at hw
   have := hPi (.int .i64 i) h' ⟨by rw [hw], hS.trans hg'⟩
   simp [zZa.c, zZa.r0, zZa.r1, zZa.r8, zZa.b7, zZa.r2, zZa.r3, zZa.r4, zZa.r5, zZa.r6, k0, k1, k7, k8, hl, c1, ia, okA, hc, this]
 ·have c1 : ¬ (i : Int) < l.length := by omega
  rw [List.drop_eq_nil_of_le (by omega)] at hw
  have := hPi (.int .i64 (-1)) S ⟨by rw [hw]; rfl, hS⟩
  simp [zZa.c, zZa.r0, zZa.r1, zZa.r8, zZa.b7, zZa.r2, zZa.r3, zZa.r4, zZa.r5, zZa.r6, k0, k1, k7, k8, hl, c1, this]
def valV (l : List Atr) (i : Int) : V := if i < 0 then .tup [.str ⟨#[]⟩, .bool false, .int .i64 0] else match l[i.toNat]? with | some a => .tup [.str a.val, .bool true, .int .i64 0] | none => .tup [.str ⟨#[]⟩, .bool false, .int .i64 0]
def ats (f : List Nd) (h : Int) : List Atr := (at_ f h).attrs
theorem fieldN7 (n : Nd) (H : Heap) : evField H 7 none (.agg (cN n)) = some (.arr (n.attrs.map cA), H) := rfl
theorem ats_len {f : List Nd} (z : Sz f) (h : Int) : (ats f h).length < 2 ^ 50 := z.ata h
theorem jZc (f : List Nd) (z : Sz f) (h : Int) (p : Atr → Bool) (g : V) (H : Heap) (hg : Tells1 g p (ats f h) H) : ∃ r h', callW Φ (.fn (.func qZj.k) [] []) [eF f, .int .i64 h, g] H = some (r, h') ∧ (fun r h' => r = valV (ats f h) (idx p (ats f h) 0) ∧ Gr H h') r h' := by
 obtain ⟨P, hP⟩ : ∃ P : V → Heap → Prop, P = fun r h' => r = valV (ats f h) (idx p (ats f h) 0) ∧ Gr H h' := ⟨_, rfl⟩
 suffices hgo : ∃ r h', callW Φ (.fn (.func qZj.k) [] []) [eF f, .int .i64 h, g] H = some (r, h') ∧ P r h' by rw [hP] at hgo; exact hgo
 have hPi : ∀ r h', (fun r h' => r = valV (ats f h) (idx p (ats f h) 0) ∧ Gr H h') r h' → P r h' := fun r h' q => by rw [hP]; exact q
 clear hP
 refine jZY qZj.Φ rfl (Nat.le_of_ble_eq_true rfl) (fun env he h0 => ?_)
 have g0 := h0 0 (by simp)
 change eget env 0 = .agg [.arr (f.map cN)] at g0
 have g1 := h0 1 (by simp)
 change eget env 1 = .int .i64 h at g1
 have g2 := h0 2 (by simp)
 change eget env 2 = g at g2
 clear h0
 simp [qZj.c] at he
 have hlf := z.len
 have hcc : (V.agg [V.arr (f.map cN)]).cells = [.arr (f.map cN)] := rfl
 have b0 : evBox H [.arr (f.map cN)] = some (.ptr H.length 0, H ++ [.cells [.arr (f.map cN)]]) := jZT _ _ rfl
 obtain ⟨H1, hH1⟩ : ∃ H1, H1 = H ++ [.cells [.arr (f.map cN)]] := ⟨_, rfl⟩
 have G1 : Gr H H1 := by rw [hH1]; exact Gr.push _ _
 have cl : cellsAt H1 (.ptr H.length 0) = some [.arr (f.map cN)] := by rw [hH1]; exact vZN _ _ 0
 rw [← hH1] at b0
 have hA := wZo f h hlf H1
 simp only [eF, eN] at hA
 obtain ⟨r, H2, hI, rfl, G2⟩ := ixA (ats f h) p g H1 (ats_len z h) (fun a ha S hS => hg a ha S (G1.trans hS))
 have hI' : callW Φ zZa [.arr ((at_ f h).attrs.map cA), g] H1 = _ := hI
 have fin := hPi _ H2 ⟨rfl, G1.trans G2⟩
 obtain ⟨i, hi⟩ : ∃ i, i = idx p (ats f h) 0 := ⟨_, rfl⟩
 rw [← hi] at hI' fin
 rcases xZb p (ats f h) 0 with h1 | ⟨h1, h2⟩
 ·rw [← hi] at h1
  have c : i < 0 := by omega
  simp only [valV, c, if_true] at fin
  simp [qZj.c, qZj.r0, qZj.r1, qZj.r2, qZj.r3, qZj.r4, qZj.r5, g0, g1, g2, he, hcc, b0, cl, ofCells, hA, fieldN7, hI', c, fin]
 ·rw [← hi] at h1 h2
  have c : ¬ i < 0 := by omega
  obtain ⟨a, ha⟩ : ∃ a, (ats f h)[i.toNat]? = some a := ⟨_, List.getElem?_eq_getElem (by omega)⟩
  have ha' : (at_ f h).attrs[i.toNat]? = some a := ha
  simp only [valV, c, if_false, ha] at fin
  have ia := vZy (h := H2) (k := .i64) wZr (show 0 ≤ i by omega) ha'
  have fa : okV H2 (faddrV 3 (.iptr (cA a))) = some (.iptr [.str a.val], H2) := by simp [faddrV, cA, okV]
  have ca : okCells H2 none (cellsAt H2 (.iptr [.str a.val])) = some (.str a.val, H2) := rfl
  simp [qZj.c, qZj.r0, qZj.r1, qZj.r2, qZj.r3, qZj.r4, qZj.r5, g0, g1, g2, he, hcc, b0, cl, ofCells, hA, fieldN7, hI', c, ia, fa, ca, fin]
end Go.Proofs.It
