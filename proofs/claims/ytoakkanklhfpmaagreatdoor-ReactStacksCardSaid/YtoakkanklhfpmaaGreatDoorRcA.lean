/- Texts, lists in the heap, functions called. Sets of numbers, as maps. Lists in the heap whose elements hold a list each. What was frozen once is frozen again alike; pure functions called with what lies in the heap. No conditions. -/
import Derived.Test.YtoakkanklhfpmaaGreatDoorRcC
import Derived.Test.YtoakkanklhfpmaaGreatDoorRcO
import Derived.Test.YtoakkanklhfpmaaGreatDoorRcBeg
set_option maxHeartbeats 16000000
set_option maxRecDepth 100000
set_option linter.unusedVariables false
set_option linter.unusedSimpArgs false
set_option linter.unusedSectionVars false
namespace Go.Proofs.Rc
open Go Go.Ev
abbrev Bs := List UInt8
abbrev T (l : Bs) : V := .str ⟨l.toArray⟩
theorem T_size (l : Bs) : (⟨l.toArray⟩ : ByteArray).size = l.length := by simp [ByteArray.size]
theorem T_list (l : Bs) : (⟨l.toArray⟩ : ByteArray).data.toList = l := by simp
theorem T_beq (a b : Bs) : beqS ⟨a.toArray⟩ ⟨b.toArray⟩ = (a == b) := by simp [beqS]
theorem T_get (l : Bs) (n : Nat) : (⟨l.toArray⟩ : ByteArray)[n]? = l[n]? := by
 by_cases h : n < l.length
 ·have h2 : n < (⟨l.toArray⟩ : ByteArray).size := by rw [T_size]; exact h
  rw [getElem?_pos _ n h2, List.getElem?_eq_getElem h]
  rfl
 ·have h2 : ¬ n < (⟨l.toArray⟩ : ByteArray).size := by rw [T_size]; exact h
  rw [getElem?_neg _ n h2, List.getElem?_eq_none (by omega)]
theorem T_extract (l : Bs) (a b : Nat) : (⟨l.toArray⟩ : ByteArray).extract a b = ⟨((l.take b).drop a).toArray⟩ := by
 apply ByteArray.ext
 simp [ByteArray.data_extract, List.extract_eq_take_drop, List.drop_take]
theorem T_app (a b : Bs) : (⟨a.toArray⟩ : ByteArray) ++ ⟨b.toArray⟩ = ⟨(a ++ b).toArray⟩ := by
 apply ByteArray.ext
 simp
theorem T_of (s : ByteArray) : ∃ l, V.str s = T l := ⟨s.data.toList, by simp⟩
section
variable {h : Heap}
theorem len_T (l : Bs) : evLen h .s (T l) = some (.int .i64 l.length, h) := by rw [len_str, T_size]
theorem beq_T (a b : Bs) : binV .eql (T a) (T b) = some (.bool (a == b)) := by rw [bin_seql, T_beq]
theorem bne_T (a b : Bs) : binV .neq (T a) (T b) = some (.bool (!(a == b))) := by rw [bin_sneq, T_beq]
end
theorem jZ2 {f : FuncId} {cf : Cf} (hf : Φ f = some cf) (hp : cf.pure = true) {args : List V} {h : Heap} {r' : V} (ha : args.all flatN2 = true)
  (hb : ∃ r h2, evBodyW (callW Φ) cf (args.map nz2) [] = some (r, h2) ∧ ∃ h3, fz fzDepth h2 r = some (r', h3)) : callW Φ (.fn (.func f) [] []) args h = some (r', h) := by
 obtain ⟨r, h2, hb, h3, hz⟩ := hb
 refine kZj hf hp (h1 := h) («as» := args.map nz2) ?_ hb hz
 simp only [List.nil_append, List.append_nil]
 exact jZ7 fun x hx => wZI (List.all_eq_true.1 ha x hx)
theorem wZt (H : Heap) (cs : List V) (off : Nat) : cellsAt (H ++ [.cells cs]) (.ptr H.length off) = some (cs.drop off) := by simp [cellsAt]
theorem store_last (H : Heap) (cs ys : List V) (off : Nat) : evStore (H ++ [.cells cs]) (.ptr H.length off) ys = (setRange cs off ys).map fun cs' => (V.non, H ++ [.cells cs']) := by
 simp only [evStore, List.getElem?_concat_length, vZC]
 cases setRange cs off ys <;> simp
theorem wZs (H : Heap) (cs : List V) (hc : cs.all V.isCell = true) : evBox H cs = some (.ptr H.length 0, H ++ [.cells cs]) := by simp [evBox, hc, vZU]
def cI (n : Int) : List V := [.int .i64 n]
def cU (u : Nat) : List V := [.int .u16 u]
def cT (l : Bs) : List V := [T l]
theorem iaddr_cU {h : Heap} {l : List Nat} {k : IntKind} {i u : Nat} (hx : l[i]? = some u) : iaddrV h 1 (.arr (l.map cU)) (.int k i) = some (.iptr (cU u)) := wZK (enc := cU) (fun _ => rfl) hx
theorem wZ6 {h : Heap} {l : List Int} {k : IntKind} {i : Nat} {u : Int} (hx : l[i]? = some u) : iaddrV h 1 (.arr (l.map cI)) (.int k i) = some (.iptr (cI u)) := wZK (enc := cI) (fun _ => rfl) hx
theorem iaddr_cT {h : Heap} {l : List Bs} {k : IntKind} {i : Nat} {u : Bs} (hx : l[i]? = some u) : iaddrV h 1 (.arr (l.map cT)) (.int k i) = some (.iptr (cT u)) := wZK (enc := cT) (fun _ => rfl) hx
theorem take_same {α : Type} {a b : List α} {i : Nat} {x : α} (h : a.take i = b.take i) (ha : a[i]? = some x) (hb : b[i]? = some x) : a.take (i + 1) = b.take (i + 1) := by
 rw [List.take_add_one, List.take_add_one, h, ha, hb]
theorem ne_at {α : Type} {a b : List α} {i : Nat} {x y : α} (ha : a[i]? = some x) (hb : b[i]? = some y) (h : x ≠ y) : a ≠ b := fun e => by
 rw [e, hb] at ha
 exact h (Option.some.inj ha).symm
theorem wZF {H : Heap} {id off : Nat} {cs : List V} {x : V} (h : H[id]? = some (.cells cs)) (ho : off < cs.length) (hx : x.isCell = true ∧ x.cells = [x]) : evStoreV H 1 (.ptr id off) x = some (V.non, H.set id (.cells (cs.set off x))) := by
 have : setRange cs off [x] = some (cs.set off x) := by
  unfold setRange
  rw [if_pos (by simp; omega), List.set_eq_take_append_cons_drop, if_pos ho]
  simp
 simp [evStoreV, hx.1, hx.2, evStore, h, this]
theorem qZo {H : Heap} {id : Nat} {cs : List V} (h : H[id]? = some (.cells cs)) (off : Nat) : cellsAt H (.ptr id off) = some (cs.drop off) := by simp [cellsAt, h]
def plainR (sz : Nat) (xs : List (List V)) : Prop := ∀ e ∈ xs, e.length = sz ∧ e.all V.isCell = true ∧ e.all scal = true
theorem plainR.map {α : Type} {enc : α → List V} {sz : Nat} (h1 : ∀ x, (enc x).length = sz) (h2 : ∀ x, (enc x).all V.isCell = true) (h3 : ∀ x, (enc x).all scal = true) (l : List α) : plainR sz (l.map enc) := by
 intro e he
 obtain ⟨x, _, rfl⟩ := List.mem_map.1 he
 exact ⟨h1 x, h2 x, h3 x⟩
def VL (h : Heap) (sz : Nat) (v : V) (o : Option Nat) (xs : List (List V)) : Prop :=
 ((v = .nils ∨ v = .nile) ∧ xs = [] ∧ o = none) ∨
 ∃ id ep, o = some id ∧ v = .sl id ep 0 xs.length ∧ h[id]? = some (.row sz xs ep true) ∧ plainR sz xs
theorem VL.nil (h : Heap) (sz : Nat) : VL h sz .nils none [] := .inl ⟨.inl rfl, rfl, rfl⟩
theorem VL.nile (h : Heap) (sz : Nat) : VL h sz .nile none [] := .inl ⟨.inr rfl, rfl, rfl⟩
theorem VL.mono {h h' : Heap} {sz : Nat} {v : V} {o : Option Nat} {xs : List (List V)} (hs : VL h sz v o xs) (hh : ∀ id, o = some id → h'[id]? = h[id]?) : VL h' sz v o xs := by
 rcases hs with hs | ⟨id, ep, ho, hv, hr, hp⟩
 ·exact .inl hs
 ·exact .inr ⟨id, ep, ho, hv, by rw [hh id ho]; exact hr, hp⟩
theorem VL.lt {h : Heap} {sz : Nat} {v : V} {o : Option Nat} {xs : List (List V)} (hs : VL h sz v o xs) {id : Nat} (ho : o = some id) : id < h.length := by
 rcases hs with ⟨_, _, h1⟩ | ⟨id', ep, h1, hv, hr, hp⟩
 ·rw [h1] at ho; cases ho
 ·rw [h1] at ho; cases ho
  exact (List.getElem?_eq_some_iff.1 hr).1
theorem VL.push {h : Heap} {sz : Nat} {v : V} {o : Option Nat} {xs : List (List V)} (hs : VL h sz v o xs) (e : Heap) : VL (h ++ e) sz v o xs :=
 hs.mono fun id ho => List.getElem?_append_left (hs.lt ho)
theorem VL.len {h : Heap} {sz : Nat} {v : V} {o : Option Nat} {xs : List (List V)} (hs : VL h sz v o xs) (h2 : Heap) : evLen h2 .l v = some (.int .i64 xs.length, h2) := by
 rcases hs with ⟨rfl | rfl, rfl, _⟩ | ⟨id, ep, _, rfl, _, _⟩ <;> simp [evLen, lenV, vZL]
theorem VL.pl {h : Heap} {sz : Nat} {v : V} {o : Option Nat} {xs : List (List V)} (hs : VL h sz v o xs) : plainR sz xs := by
 rcases hs with ⟨_, rfl, _⟩ | ⟨id, ep, _, _, _, hp⟩
 ·intro e he; cases he
 ·exact hp
theorem VL.cell {h : Heap} {sz : Nat} {v : V} {o : Option Nat} {xs : List (List V)} (hs : VL h sz v o xs) : v.isCell = true ∧ v.cells = [v] := by
 rcases hs with ⟨rfl | rfl, _⟩ | ⟨_, _, _, rfl, _⟩ <;> exact ⟨rfl, rfl⟩
theorem VL.ne {h : Heap} {sz : Nat} {v : V} {o : Option Nat} {xs : List (List V)} (hs : VL h sz v o xs) {a : Nat} {ob : Ob} (ha : h[a]? = some ob) (hn : ∀ z xs ep w, ob ≠ .row z xs ep w) : o ≠ some a := by
 rintro rfl
 rcases hs with ⟨_, _, h1⟩ | ⟨id', ep, h1, hv, hr, hp⟩
 ·cases h1
 ·cases h1
  rw [ha] at hr
  exact hn _ _ _ _ (Option.some.inj hr)
theorem jZK {sz : Nat} {es : List (List V)} (he : plainR sz es) : szOk sz es = true := by
 simp only [szOk, List.all_eq_true, beq_iff_eq]
 exact fun x hx => (he x hx).1
theorem VL.app {h : Heap} {sz by_ : Nat} {v : V} {o : Option Nat} {xs : List (List V)} (hs : VL h sz v o xs) {es : List (List V)} (he : plainR sz es) {q : V} (hq : elemsOf h q = some es) (hroom : (xs.length + es.length) * by_ ≤ roomB) :
  ∃ v' o' h', evApp h sz by_ v q = some (v', h') ∧ VL h' sz v' o' (xs ++ es) ∧ h.length ≤ h'.length ∧ (∀ j, j < h.length → o ≠ some j → h'[j]? = h[j]?) ∧ ∀ id, o' = some id → o = some id ∨ h.length ≤ id := by
 have hsz := jZK he
 rcases hs with ⟨hv, rfl, rfl⟩ | ⟨id, ep, rfl, rfl, hr, hp⟩
 ·cases es with
  | nil => exact ⟨v, none, h, by rcases hv with rfl | rfl <;> simp [evApp, hq], .inl ⟨hv, rfl, rfl⟩, Nat.le_refl _, fun _ _ _ => rfl, fun _ h => by cases h⟩
  | cons e es =>
   refine ⟨.sl h.length 0 0 (e :: es).length, some h.length, h ++ [.row sz (e :: es) 0 true], ?_, .inr ⟨h.length, 0, rfl, rfl, by simp, he⟩, by simp, fun j hj _ => by rw [List.getElem?_append_left hj], fun id hid => by cases hid; exact .inr (Nat.le_refl _)⟩
   simp only [List.length_nil, Nat.zero_add] at hroom
   rcases hv with rfl | rfl <;> simp only [evApp, hq, hroom, hsz, and_self, if_true, vZL, vZU]
 ·have hlt : id < h.length := (List.getElem?_eq_some_iff.1 hr).1
  cases es with
  | nil =>
   refine ⟨.sl id ep 0 xs.length, some id, h, by simp only [evApp, hq, hr], .inr ⟨id, ep, rfl, by simp, by simpa using hr, by simpa using hp⟩, Nat.le_refl _, fun _ _ _ => rfl, fun i hi => .inl hi⟩
  | cons e es =>
   have hpe : plainR sz (xs ++ e :: es) := by
    intro y hy
    rcases List.mem_append.1 hy with hy | hy
    ·exact hp y hy
    ·exact he y hy
   refine ⟨.sl id (ep + 1) 0 (xs.length + (e :: es).length), some id, h.set id (.row sz (xs ++ e :: es) (ep + 1) true), ?_,
    .inr ⟨id, ep + 1, rfl, by simp, by rw [List.getElem?_set_self hlt], hpe⟩, by simp, fun j hj hne => by rw [List.getElem?_set_ne (fun e => hne (by rw [e]))], fun i hi => .inl hi⟩
   simp only [evApp, hq, hr, hsz, hroom, and_self, if_true, vZL, Nat.zero_add, vZC]
theorem VL.at {h : Heap} {sz : Nat} {v : V} {o : Option Nat} {xs : List (List V)} (hs : VL h sz v o xs) {k : IntKind} {n : Int} (h0 : 0 ≤ n) {e : List V} (he : xs[n.toNat]? = some e) :
  ∃ id ep, o = some id ∧ iaddrV h sz v (.int k n) = some (.eptr id ep n.toNat 0) ∧ ∀ off, cellsAt h (.eptr id ep n.toNat off) = some (e.drop off) := by
 have hi := (List.getElem?_eq_some_iff.1 he).1
 rcases hs with ⟨_, rfl, _⟩ | ⟨id, ep, rfl, rfl, hr, hp⟩
 ·simp at he
 ·refine ⟨id, ep, rfl, ?_, fun off => by simp only [cellsAt, hr, if_true, he, Option.map_some]⟩
  have h2 : n < (xs.length : Int) := by omega
  simp only [iaddrV, hr, Nat.zero_add, true_and]
  rw [if_pos ⟨h0, h2⟩, if_pos hi]
theorem VL.put {h : Heap} {sz : Nat} {v : V} {o : Option Nat} {xs : List (List V)} (hs : VL h sz v o xs) {k : IntKind} {n : Int} (h0 : 0 ≤ n) (hn : n.toNat < xs.length) {x : V} (hx : x.cells.length = sz ∧ x.cells.all V.isCell = true ∧ x.cells.all scal = true) :
  ∃ id ep h', o = some id ∧ iaddrV h sz v (.int k n) = some (.eptr id ep n.toNat 0) ∧ evStoreV h sz (.eptr id ep n.toNat 0) x = some (V.non, h') ∧ VL h' sz v o (xs.set n.toNat x.cells) ∧ h'.length = h.length ∧ ∀ j, o ≠ some j → h'[j]? = h[j]? := by
 rcases hs with ⟨_, rfl, _⟩ | ⟨id, ep, rfl, rfl, hr, hp⟩
 ·simp at hn
 ·have hlt : id < h.length := (List.getElem?_eq_some_iff.1 hr).1
  obtain ⟨e, he⟩ : ∃ e, xs[n.toNat]? = some e := ⟨_, List.getElem?_eq_getElem hn⟩
  have hel := (hp e (List.mem_of_getElem? he)).1
  refine ⟨id, ep, h.set id (.row sz (xs.set n.toNat x.cells) ep true), rfl, ?_, ?_, .inr ⟨id, ep, rfl, by simp, by rw [List.getElem?_set_self hlt], ?_⟩, by simp, fun j hj => by rw [List.getElem?_set_ne (fun e => hj (by rw [e]))]⟩
  ·have h2 : n < (xs.length : Int) := by omega
   simp only [iaddrV, hr, Nat.zero_add, true_and]
   rw [if_pos ⟨h0, h2⟩, if_pos hn]
  ·have hsr : setRange e 0 x.cells = some x.cells := by
    unfold setRange
    rw [if_pos (by omega), Nat.zero_add, List.drop_eq_nil_of_le (by omega)]
    simp
   simp only [evStoreV, hx.1, hx.2.1, and_self, if_true, evStore, hr, he, hsr, vZC]
  ·intro y hy
   rcases List.mem_or_eq_of_mem_set hy with hy | rfl
   ·exact hp y hy
   ·exact hx
theorem VL.fz {d : Nat} {h : Heap} {sz : Nat} {v : V} {o : Option Nat} {xs : List (List V)} (hs : VL h sz v o xs) : ∃ h', fz (d + 2) h v = some (.arr xs, h') ∧ h.length = h'.length ∧ ∀ j, o ≠ some j → h'[j]? = h[j]? := by
 rcases hs with ⟨rfl | rfl, rfl, rfl⟩ | ⟨id, ep, rfl, rfl, hr, hp⟩
 ·exact ⟨h, rfl, rfl, fun _ _ => rfl⟩
 ·exact ⟨h, rfl, rfl, fun _ _ => rfl⟩
 ·refine ⟨h.set id (.row sz xs ep false), ?_, by simp, fun j hj => by rw [List.getElem?_set_ne (fun e => hj (by rw [e]))]⟩
  have := fz_sl (d := d) (off := 0) (len := xs.length) hr (by simp) fun e he => (hp e he).2.2
  rw [this]
  simp
def SV (H : Heap) (v : V) (o : Option Nat) (xs : List (List V)) : Prop := (v = .arr xs ∧ o = none) ∨ VL H 1 v o xs
theorem SV.mono {H H' : Heap} {v : V} {o : Option Nat} {xs : List (List V)} (h : SV H v o xs) (hh : ∀ id, o = some id → H'[id]? = H[id]?) : SV H' v o xs := h.elim .inl fun h => .inr (h.mono hh)
theorem SV.cell {H : Heap} {v : V} {o : Option Nat} {xs : List (List V)} (h : SV H v o xs) : v.isCell = true ∧ v.cells = [v] := by
 rcases h with ⟨rfl, _⟩ | h
 ·exact ⟨rfl, rfl⟩
 ·exact h.cell
theorem SV.len {H : Heap} {v : V} {o : Option Nat} {xs : List (List V)} (h : SV H v o xs) (H2 : Heap) : evLen H2 .l v = some (.int .i64 xs.length, H2) := by
 rcases h with ⟨rfl, _⟩ | h
 ·exact vZa _
 ·exact h.len _
theorem SV.elems {H : Heap} {v : V} {o : Option Nat} {xs : List (List V)} (h : SV H v o xs) : elemsOf H v = some xs := by
 rcases h with ⟨rfl, _⟩ | ⟨rfl | rfl, rfl, _⟩ | ⟨id, ep, _, rfl, hr, _⟩
 ·rfl
 ·rfl
 ·rfl
 ·simp [elemsOf, hr]
theorem SV.fz {d : Nat} {H : Heap} {v : V} {o : Option Nat} {xs : List (List V)} (h : SV H v o xs) : ∃ H', fz (d + 2) H v = some (.arr xs, H') ∧ H.length = H'.length ∧ ∀ j, o ≠ some j → H'[j]? = H[j]? := by
 rcases h with ⟨rfl, _⟩ | h
 ·exact ⟨H, rfl, rfl, fun _ _ => rfl⟩
 ·exact h.fz
theorem SV.ne {H : Heap} {v : V} {o : Option Nat} {xs : List (List V)} (hs : SV H v o xs) {a : Nat} {ob : Ob} (ha : H[a]? = some ob) (hn : ∀ z xs ep w, ob ≠ .row z xs ep w) : o ≠ some a := by
 rcases hs with ⟨_, rfl⟩ | hs
 ·simp
 ·exact hs.ne ha hn
theorem SV.lt {H : Heap} {v : V} {o : Option Nat} {xs : List (List V)} (hs : SV H v o xs) {id : Nat} (ho : o = some id) : id < H.length := by
 rcases hs with ⟨_, h⟩ | hs
 ·rw [h] at ho; cases ho
 ·exact hs.lt ho
def Apart (a b : Option Nat) : Prop := ∀ id, a = some id → b ≠ some id
theorem Apart.symm {a b : Option Nat} (h : Apart a b) : Apart b a := fun id hb ha => h id ha hb
theorem callW_fzP {f : FuncId} {cf : Cf} (hf : Φ f = some cf) (hp : cf.pure = true) {args : List V} {h : Heap} {Q : V → Prop} (ha : args.all flatN2 = true)
  (hb : ∃ r h2, evBodyW (callW Φ) cf (args.map nz2) [] = some (r, h2) ∧ ∃ r2 h3, fz fzDepth h2 r = some (r2, h3) ∧ Q r2) : ∃ r, callW Φ (.fn (.func f) [] []) args h = some (r, h) ∧ Q r := by
 obtain ⟨r, h2, hb, r2, h3, hz, hq⟩ := hb
 exact ⟨r2, jZ2 hf hp ha ⟨r, h2, hb, h3, hz⟩, hq⟩
theorem WO_of_WK {call : CallF} {l : List Cp} {s : St} {R : St → Prop} (h : WK call none (fun e s' => e = .normal ∧ R s') [.o l] s) : ∃ s1, WO call l s (fun r => r = s1) ∧ R s1 := by
 simp only [WK] at h
 obtain ⟨s1, h1, _, h2⟩ := h
 exact ⟨s1, ⟨s1, h1, rfl⟩, h2⟩
theorem WO_eq {call : CallF} {a : List Cp} {s s1 : St} {Q : St → Prop} (h : WO call a s (fun r => r = s1)) (hq : Q s1) : WO call a s Q := by
 obtain ⟨_, h1, rfl⟩ := h
 exact ⟨_, h1, hq⟩
theorem kDrawW {call : CallF} {rnd : Option Nat} {Q : Ex → St → Prop} {s : St} {k : List It} {ops : List Cp} {af : List (List Nat)} {fl l : List Nat} {ls : List (List Nat)} (h : orders2 ops af ops.length (List.replicate ops.length false) = some (l :: ls))
  (hw : WK call none (fun e r => e = .normal ∧ (∀ l' ∈ ls, WK call none (fun e' r' => e' = .normal ∧ r' = r) [.o (l'.filterMap (ops[·]?))] s) ∧ WK call rnd Q k r) [.o (l.filterMap (ops[·]?))] s) : WK call rnd Q (.c (.draw ops af fl) :: k) s := by
 obtain ⟨s1, h1, h2, h3⟩ := WO_of_WK hw
 exact kDraw2 h (WO_eq h1 ⟨fun l' hl' => by
  obtain ⟨s2, h4, rfl⟩ := WO_of_WK (h2 l' hl')
  exact h4, h3⟩)
theorem eqc_bf {h : Heap} (x y : Bool) : evEqc h false (.leaf .b) (.bool x) (.bool y) = some (.bool (x == y), h) := by cases x <;> cases y <;> rfl
theorem wZS {f : FuncId} {cf : Cf} (hf : Φ f = some cf) (hp : cf.pure = false) {caps args : List V} {h : Heap} {P : V → Heap → Prop} (hn : (args ++ caps).length ≤ cf.ntmps)
  (hw : ∀ env : List V, env.length = cf.ntmps → (∀ i, i < (args ++ caps).length → eget env i = eget (args ++ caps) i) → WK (callW Φ) none (FinX cf.results P) [.c cf.body] { env := env, marks := [], heap := h }) :
  ∃ r h', callW Φ (.fn (.func f) [] caps) args h = some (r, h') ∧ P r h' := by
 obtain ⟨r, h', h1, h2⟩ := xZx (call := callW Φ) (cf := cf) (P := P) hn hw
 refine ⟨r, h', kZT hf hp ?_, h2⟩
 simpa using h1
theorem wZd {H : Heap} {p : Nat} {a : List V} (h : H[p]? = some (.cells a)) (b : List V) : (H.set p (.cells b))[p]? = some (.cells b) := by
 rw [List.getElem?_set_self (List.getElem?_eq_some_iff.1 h).1]
open Go Go.Ev
def mpS : Nat → List Int → List (V × V × Nat)
 | _, [] => []
 | k, p :: r => (.int .i64 p, .bool true, k) :: mpS (k + 1) r
theorem eqd_i (x y : Int) : eqdV (.leaf .i) (.int .i64 x) (.int .i64 y) = some (x == y) := rfl
theorem keyS (x : Int) : keyOk (.leaf .i) (.int .i64 x) = true := by simp [keyOk, eqd_i]
theorem findS {x : Int} : ∀ (l : List Int) (k i : Nat), (x ∈ l → ∃ j, findKey (.leaf .i) (.int .i64 x) (mpS k l) i = some (some (j, .bool true))) ∧ (x ∉ l → findKey (.leaf .i) (.int .i64 x) (mpS k l) i = some none)
 | [], k, i => ⟨fun h => (by cases h), fun _ => rfl⟩
 | y :: r, k, i => by
  by_cases hq : x = y
  ·subst hq
   exact ⟨fun _ => ⟨i, by simp only [mpS, findKey, eqd_i, beq_self_eq_true]⟩, fun h => absurd (List.mem_cons_self ..) h⟩
  ·have hq2 : (x == y) = false := by simpa using hq
   obtain ⟨a, b⟩ := findS r (k + 1) (i + 1)
   refine ⟨fun h => ?_, fun h => ?_⟩
   ·obtain ⟨j, h1⟩ := a ((List.mem_cons.1 h).resolve_left hq)
    exact ⟨j, by simp only [mpS, findKey, eqd_i, hq2, h1]⟩
   ·simp only [List.mem_cons, not_or] at h
    simp only [mpS, findKey, eqd_i, hq2, b h.2]
theorem mpS_snoc : ∀ (k : Nat) (l : List Int) (p : Int), mpS k (l ++ [p]) = mpS k l ++ [(.int .i64 p, .bool true, k + l.length)]
 | _, [], _ => rfl
 | k, q :: r, p => by
  simp only [List.cons_append, mpS, mpS_snoc (k + 1) r p, List.length_cons]
  rw [show k + 1 + r.length = k + (r.length + 1) by omega]
def SetM (H : Heap) (id : Nat) (l : List Int) : Prop := H[id]? = some (.map (mpS 0 l) l.length)
section
variable {H : Heap} {id : Nat} {l : List Int} {x : Int}
theorem SetM.look (h : SetM H id l) (x : Int) : evLook H (.leaf .i) false (.bool false) (.map id) (.int .i64 x) = some (.bool (decide (x ∈ l)), H) := by
 obtain ⟨a, b⟩ := findS (x := x) l 0 0
 unfold SetM at h
 by_cases hx : x ∈ l
 ·obtain ⟨j, h1⟩ := a hx
  simp only [evLook, keyS, if_true, h, h1, found, Bool.false_eq_true, if_false, hx, decide_true]
 ·simp only [evLook, keyS, if_true, h, b hx, found, Bool.false_eq_true, if_false, hx, decide_false]
theorem SetM.put (h : SetM H id l) (hx : x ∉ l) : ∃ H', evMapup H (.leaf .i) (.map id) (.int .i64 x) (.bool true) = some (V.non, H') ∧ SetM H' id (l ++ [x]) ∧ H'.length = H.length ∧ ∀ j, j ≠ id → H'[j]? = H[j]? := by
 obtain ⟨a, b⟩ := findS (x := x) l 0 0
 unfold SetM at h
 refine ⟨H.set id (.map (mpS 0 l ++ [(.int .i64 x, .bool true, l.length)]) (l.length + 1)), ?_, ?_, by simp, fun j hj => by rw [List.getElem?_set_ne (Ne.symm hj)]⟩
 ·simp only [evMapup, keyS, if_true, h, b hx, vZC]
 ·unfold SetM
  rw [List.getElem?_set_self (List.getElem?_eq_some_iff.1 h).1, mpS_snoc]
  simp
theorem SetM.mono {H' : Heap} (h : SetM H id l) (hh : H'[id]? = H[id]?) : SetM H' id l := by unfold SetM at *; rw [hh]; exact h
end
open Go Go.Ev
def VS (h : Heap) (sz : Nat) (v : V) (o : Option Nat) (xs : List (List V)) : Prop :=
 ((v = .nils ∨ v = .nile) ∧ xs = [] ∧ o = none) ∨
 ∃ id ep off ys, o = some id ∧ v = .sl id ep off xs.length ∧ h[id]? = some (.row sz ys ep true) ∧ plainR sz ys ∧ xs = (ys.drop off).take xs.length ∧ off + xs.length ≤ ys.length
theorem VL.vs {h : Heap} {sz : Nat} {v : V} {o : Option Nat} {xs : List (List V)} (hs : VL h sz v o xs) : VS h sz v o xs := by
 rcases hs with hs | ⟨id, ep, ho, hv, hr, hp⟩
 ·exact .inl hs
 ·exact .inr ⟨id, ep, 0, xs, ho, hv, hr, hp, by simp, by omega⟩
section
variable {h h' : Heap} {sz : Nat} {v : V} {o : Option Nat} {xs : List (List V)}
theorem VS.mono (hs : VS h sz v o xs) (hh : ∀ id, o = some id → h'[id]? = h[id]?) : VS h' sz v o xs := by
 rcases hs with hs | ⟨id, ep, off, ys, ho, hv, hr, hp⟩
 ·exact .inl hs
 ·exact .inr ⟨id, ep, off, ys, ho, hv, by rw [hh id ho]; exact hr, hp⟩
theorem VS.lt (hs : VS h sz v o xs) {id : Nat} (ho : o = some id) : id < h.length := by
 rcases hs with ⟨_, _, h1⟩ | ⟨id', ep, off, ys, h1, hv, hr, hp⟩
 ·rw [h1] at ho; cases ho
 ·rw [h1] at ho; cases ho
  exact (List.getElem?_eq_some_iff.1 hr).1
theorem VS.len (hs : VS h sz v o xs) (h2 : Heap) : evLen h2 .l v = some (.int .i64 xs.length, h2) := by
 rcases hs with ⟨rfl | rfl, rfl, _⟩ | ⟨id, ep, off, ys, _, rfl, _, _⟩ <;> simp [evLen, lenV, vZL]
theorem VS.cell (hs : VS h sz v o xs) : v.isCell = true ∧ v.cells = [v] := by
 rcases hs with ⟨rfl | rfl, _⟩ | ⟨_, _, _, _, _, rfl, _, _⟩ <;> exact ⟨rfl, rfl⟩
theorem VS.fz {d : Nat} (hs : VS h sz v o xs) : ∃ h', fz (d + 2) h v = some (.arr xs, h') ∧ h.length = h'.length ∧ ∀ j, o ≠ some j → h'[j]? = h[j]? := by
 rcases hs with ⟨rfl | rfl, rfl, rfl⟩ | ⟨id, ep, off, ys, rfl, rfl, hr, hp, hx, hl⟩
 ·exact ⟨h, rfl, rfl, fun _ _ => rfl⟩
 ·exact ⟨h, rfl, rfl, fun _ _ => rfl⟩
 ·refine ⟨h.set id (.row sz ys ep false), ?_, by simp, fun j hj => by rw [List.getElem?_set_ne (fun e => hj (by rw [e]))]⟩
  have := fz_sl (d := d) (off := off) (len := xs.length) hr hl fun e he => (hp e he).2.2
  rw [this, ← hx]
theorem VS.tail (hs : VS h sz v o xs) (hx : xs ≠ []) : ∃ v', sliceV .l h sz v (some (.int .i64 1)) none = some v' ∧ VS h sz v' o xs.tail := by
 rcases hs with ⟨_, rfl, _⟩ | ⟨id, ep, off, ys, rfl, rfl, hr, hp, h1, hl⟩
 ·exact absurd rfl hx
 ·have h0 : 1 ≤ xs.length := by
   cases xs with
   | nil => exact absurd rfl hx
   | cons _ _ => simp
  refine ⟨.sl id ep (off + 1) (xs.length - 1), ?_, .inr ⟨id, ep, off + 1, ys, rfl, by rw [List.length_tail], hr, hp, ?_, by rw [List.length_tail]; omega⟩⟩
  ·have e0 : (1 : Int) ≤ xs.length := by omega
   simp [sliceV, sliceL, hr, lohi, bound, e0]
  ·rw [List.length_tail]
   conv => lhs; rw [h1]
   rw [← List.drop_one, List.drop_take, List.drop_drop]
end
def El (H : Heap) (z : Nat) (e : List V) (o : Option Nat) (w : List V) : Prop := ∃ a b v xs, e = a ++ v :: b ∧ w = a ++ .arr xs :: b ∧ a.all scal = true ∧ b.all scal = true ∧ VS H z v o xs
theorem El.mono {H H' : Heap} {z : Nat} {e : List V} {o : Option Nat} {w : List V} (h : El H z e o w) (hh : ∀ id, o = some id → H'[id]? = H[id]?) : El H' z e o w := by
 obtain ⟨a, b, v, xs, h1, h2, h3, h4, h5⟩ := h
 exact ⟨a, b, v, xs, h1, h2, h3, h4, h5.mono hh⟩
theorem El.lt {H : Heap} {z : Nat} {e : List V} {o : Option Nat} {w : List V} (h : El H z e o w) {id : Nat} (ho : o = some id) : id < H.length := by
 obtain ⟨a, b, v, xs, h1, h2, h3, h4, h5⟩ := h
 exact h5.lt ho
theorem El.len {H : Heap} {z : Nat} {e : List V} {o : Option Nat} {w : List V} (h : El H z e o w) : e.length = w.length := by
 obtain ⟨a, b, v, xs, rfl, rfl, h3, h4, h5⟩ := h
 simp
theorem kZ8 {d : Nat} : ∀ {l : List V} (H : Heap), l.all scal = true → mapH (Go.Ev.fz (d + 1)) H l = some (l, H)
 | [], H, _ => rfl
 | x :: r, H, h => by
  simp only [List.all_cons, Bool.and_eq_true] at h
  have hx : Go.Ev.fz (d + 1) H x = some (x, H) := by
   cases x <;> simp [scal] at h <;> rfl
  simp only [mapH, hx, kZ8 H h.2]
theorem mapH_app {f : Heap → V → Option (V × Heap)} : ∀ {a a' b b' : List V} {H H1 H2 : Heap}, mapH f H a = some (a', H1) → mapH f H1 b = some (b', H2) → mapH f H (a ++ b) = some (a' ++ b', H2)
 | [], _, b, b', H, H1, H2, h1, h2 => by
  simp only [mapH, Option.some.injEq, Prod.mk.injEq] at h1
  obtain ⟨rfl, rfl⟩ := h1
  simpa using h2
 | x :: r, _, b, b', H, H1, H2, h1, h2 => by
  cases hy : f H x with
  | none => simp only [mapH, hy] at h1; cases h1
  | some q =>
   obtain ⟨y, Hy⟩ := q
   cases hs : mapH f Hy r with
   | none => simp only [mapH, hy, hs] at h1; cases h1
   | some q =>
    obtain ⟨ys, Hs⟩ := q
    simp only [mapH, hy, hs, Option.some.injEq, Prod.mk.injEq] at h1
    obtain ⟨rfl, rfl⟩ := h1
    simp only [List.cons_append, mapH, hy, mapH_app hs h2]
theorem El.fz {d : Nat} {H : Heap} {z : Nat} {e : List V} {o : Option Nat} {w : List V} (h : El H z e o w) : ∃ H', mapH (Go.Ev.fz (d + 2)) H e = some (w, H') ∧ H.length = H'.length ∧ ∀ j, o ≠ some j → H'[j]? = H[j]? := by
 obtain ⟨a, b, v, xs, rfl, rfl, h3, h4, h5⟩ := h
 obtain ⟨H1, f1, l1, k1⟩ := h5.fz (d := d)
 refine ⟨H1, mapH_app (kZ8 (d := d + 1) H h3) ?_, l1, k1⟩
 simp only [mapH, f1, kZ8 (d := d + 1) H1 h4]
def Subs (H : Heap) (z : Nat) : List (List V) → List (Option Nat) → List (List V) → Prop
 | [], [], [] => True
 | e :: es, o :: os, p :: ps => El H z e o p ∧ (∀ o' ∈ os, Apart o o') ∧ Subs H z es os ps
 | _, _, _ => False
theorem Subs.mono {H H' : Heap} {z : Nat} : ∀ {es : List (List V)} {os : List (Option Nat)} {ps : List (List V)}, Subs H z es os ps → (∀ id, some id ∈ os → H'[id]? = H[id]?) → Subs H' z es os ps
 | [], [], [], _, _ => trivial
 | e :: es, o :: os, p :: ps, ⟨h1, h2, h3⟩, hh => ⟨h1.mono fun id hid => hh id (by simp [hid]), h2, h3.mono fun id hid => hh id (by simp [hid])⟩
 | [], [], _ :: _, h, _ => h.elim
 | [], _ :: _, _, h, _ => h.elim
 | _ :: _, [], _, h, _ => h.elim
 | _ :: _, _ :: _, [], h, _ => h.elim
theorem Subs.app {H : Heap} {z : Nat} {es2 : List (List V)} {os2 : List (Option Nat)} {ps2 : List (List V)} (hv : Subs H z es2 os2 ps2) : ∀ {es : List (List V)} {os : List (Option Nat)} {ps : List (List V)}, Subs H z es os ps → (∀ o ∈ os, ∀ o' ∈ os2, Apart o o') → Subs H z (es ++ es2) (os ++ os2) (ps ++ ps2)
 | [], [], [], _, _ => hv
 | e1 :: es, o1 :: os, p1 :: ps, ⟨h1, h2, h3⟩, hh => ⟨h1, fun o' ho' => by
   rcases List.mem_append.1 ho' with ho' | ho'
   ·exact h2 o' ho'
   ·exact hh o1 (by simp) o' ho', hv.app h3 fun o ho o' ho' => hh o (by simp [ho]) o' ho'⟩
 | [], [], _ :: _, h, _ => h.elim
 | [], _ :: _, _, h, _ => h.elim
 | _ :: _, [], _, h, _ => h.elim
 | _ :: _, _ :: _, [], h, _ => h.elim
theorem Subs.one {H : Heap} {z : Nat} {e : List V} {o : Option Nat} {p : List V} (h : El H z e o p) : Subs H z [e] [o] [p] := ⟨h, by simp, trivial⟩
theorem Subs.len {H : Heap} {z : Nat} : ∀ {es : List (List V)} {os : List (Option Nat)} {ps : List (List V)}, Subs H z es os ps → es.length = ps.length ∧ os.length = ps.length
 | [], [], [], _ => ⟨rfl, rfl⟩
 | _ :: _, _ :: _, _ :: _, ⟨_, _, h⟩ => by have := h.len; simp [this]
 | [], [], _ :: _, h => h.elim
 | [], _ :: _, _, h => h.elim
 | _ :: _, [], _, h => h.elim
 | _ :: _, _ :: _, [], h => h.elim
theorem Subs.lt {H : Heap} {z id : Nat} : ∀ {es : List (List V)} {os : List (Option Nat)} {ps : List (List V)}, Subs H z es os ps → some id ∈ os → id < H.length
 | [], [], [], _, h => by cases h
 | _ :: _, _ :: _, _ :: _, ⟨h1, _, h3⟩, h => by
  rcases List.mem_cons.1 h with h | h
  ·exact h1.lt h.symm
  ·exact h3.lt h
 | [], [], _ :: _, h, _ => h.elim
 | [], _ :: _, _, h, _ => h.elim
 | _ :: _, [], _, h, _ => h.elim
 | _ :: _, _ :: _, [], h, _ => h.elim
theorem Subs.fz {d z : Nat} : ∀ {H : Heap} {es : List (List V)} {os : List (Option Nat)} {ps : List (List V)}, Subs H z es os ps → ∃ H', mapH (mapH (Go.Ev.fz (d + 2))) H es = some (ps, H') ∧ H.length = H'.length ∧ ∀ j, some j ∉ os → H'[j]? = H[j]?
 | H, [], [], [], _ => ⟨H, rfl, rfl, fun _ _ => rfl⟩
 | H, e :: es, o :: os, p :: ps, ⟨h1, h2, h3⟩ => by
  obtain ⟨H1, f1, l1, k1⟩ := h1.fz (d := d)
  obtain ⟨H2, f2, l2, k2⟩ := (h3.mono (H' := H1) fun id hid => k1 id fun e => h2 (some id) hid id e rfl).fz (d := d)
  refine ⟨H2, ?_, by omega, fun j hj => ?_⟩
  ·simp only [mapH, f1, f2]
  ·simp only [List.mem_cons, not_or] at hj
   rw [k2 j hj.2, k1 j (fun e => hj.1 e.symm)]
 | _, [], [], _ :: _, h => h.elim
 | _, [], _ :: _, _, h => h.elim
 | _, _ :: _, [], _, h => h.elim
 | _, _ :: _, _ :: _, [], h => h.elim
def VQ (H : Heap) (sz z : Nat) (v : V) (o : Option Nat) (os : List (Option Nat)) (ps ex : List (List V)) : Prop :=
 (v = .nils ∧ ps = [] ∧ o = none ∧ os = [] ∧ ex = []) ∨ ∃ id ep es, o = some id ∧ v = .sl id ep 0 ps.length ∧ H[id]? = some (.row sz (es ++ ex) ep true) ∧ Subs H z es os ps ∧ some id ∉ os
theorem VQ.nil (H : Heap) (sz z : Nat) : VQ H sz z .nils none [] [] [] := .inl ⟨rfl, rfl, rfl, rfl, rfl⟩
section
variable {H H' : Heap} {sz z : Nat} {v : V} {o : Option Nat} {os : List (Option Nat)} {ps ex : List (List V)}
theorem VQ.lt (h : VQ H sz z v o os ps ex) : (∀ id, o = some id → id < H.length) ∧ ∀ id, some id ∈ os → id < H.length := by
 rcases h with ⟨rfl, rfl, rfl, rfl, rfl⟩ | ⟨id, ep, es, rfl, rfl, hr, hs, hn⟩
 ·exact ⟨fun _ h => (by cases h), fun _ h => (by cases h)⟩
 ·exact ⟨fun i h => by cases h; exact (List.getElem?_eq_some_iff.1 hr).1, fun i h => hs.lt h⟩
theorem VQ.mono (h : VQ H sz z v o os ps ex) (hh : ∀ id, (o = some id ∨ some id ∈ os) → H'[id]? = H[id]?) : VQ H' sz z v o os ps ex := by
 rcases h with h | ⟨id, ep, es, ho, hv, hr, hs, hn⟩
 ·exact .inl h
 ·exact .inr ⟨id, ep, es, ho, hv, by rw [hh id (.inl ho)]; exact hr, hs.mono fun i hi => hh i (.inr hi), hn⟩
theorem VQ.cell (h : VQ H sz z v o os ps ex) : v.isCell = true ∧ v.cells = [v] := by
 rcases h with ⟨rfl, _⟩ | ⟨_, _, _, _, rfl, _⟩ <;> exact ⟨rfl, rfl⟩
theorem VQ.len (h : VQ H sz z v o os ps ex) (H2 : Heap) : evLen H2 .l v = some (.int .i64 ps.length, H2) := by
 rcases h with ⟨rfl, rfl, _⟩ | ⟨_, _, _, _, rfl, _⟩ <;> simp [evLen, lenV, vZL]
theorem VQ.add (h : VQ H sz z v o os ps []) {by_ : Nat} {e : List V} {oe : Option Nat} {p : List V} (he : El H z e oe p) (hsz : e.length = sz) (ha : ∀ o' ∈ os, Apart o' oe) (hoe : ∀ id, o = some id → oe ≠ some id) (hr : (ps.length + 1) * by_ ≤ roomB) :
  ∃ v' o' H2, evApp (H ++ [.row sz [e] 0 true]) sz by_ v (.sl H.length 0 0 1) = some (v', H2) ∧ VQ H2 sz z v' o' (os ++ [oe]) (ps ++ [p]) [] ∧ H.length ≤ H2.length ∧ (∀ j, j < H.length → o ≠ some j → H2[j]? = H[j]?) ∧ ∀ id, o' = some id → o = some id ∨ H.length ≤ id := by
 have hq : elemsOf (H ++ [.row sz [e] 0 true]) (.sl H.length 0 0 1) = some [e] := by simp [elemsOf]
 have hsz : szOk sz [e] = true := by simp [szOk, hsz]
 rcases h with ⟨rfl, rfl, rfl, rfl, _⟩ | ⟨id, ep, es, rfl, rfl, hrw, hs, hn⟩
 ·refine ⟨.sl (H.length + 1) 0 0 1, some (H.length + 1), H ++ [.row sz [e] 0 true] ++ [.row sz [e] 0 true], ?_, .inr ⟨H.length + 1, 0, [e], rfl, rfl, by simp, ⟨he.mono fun id hid => ?_, by simp, trivial⟩, ?_⟩, by simp, fun j hj _ => ?_, fun id hid => by cases hid; right; omega⟩
  ·simp only [List.length_nil, Nat.zero_add] at hr
   simp only [evApp, hq, hsz, vZL, vZU]
   simp only [Nat.one_mul] at hr
   simp [hr]
  ·rw [List.append_assoc, List.getElem?_append_left (he.lt hid)]
  ·simp only [List.nil_append, List.mem_singleton]
   intro e2
   have := he.lt e2.symm
   omega
  ·rw [List.append_assoc, List.getElem?_append_left hj]
 ·have hlt := (List.getElem?_eq_some_iff.1 hrw).1
  have hl := hs.len
  rw [List.append_nil] at hrw
  have hr2 : (H ++ [.row sz [e] 0 true])[id]? = some (.row sz es ep true) := by rw [List.getElem?_append_left hlt]; exact hrw
  refine ⟨.sl id (ep + 1) 0 (ps.length + 1), some id, (H ++ [Ob.row sz [e] 0 true]).set id (.row sz (es ++ [e]) (ep + 1) true), ?_, .inr ⟨id, ep + 1, es ++ [e], rfl, by simp, by rw [List.append_nil, List.getElem?_set_self (by simp; omega)], ?_, ?_⟩, by simp, fun j hj hne => ?_, fun i hi => .inl hi⟩
  ·have hl2 : 0 + ps.length = es.length := by rw [hl.1]; omega
   simp only [evApp, hq, hr2, hsz, vZL, vZC, true_and, List.length_cons, List.length_nil, and_true]
   rw [if_pos (by omega), if_pos hl2]
  ·refine Subs.app (Subs.one (he.mono fun i hi => ?_)) (hs.mono fun i hi => ?_) (fun o ho o' ho' => by rw [List.mem_singleton.1 ho']; exact ha o ho)
   ·rw [List.getElem?_set_ne (fun e2 => hoe id rfl (by rw [hi, e2])), List.getElem?_append_left (he.lt hi)]
   ·rw [List.getElem?_set_ne (fun e2 => hn (by rw [e2]; exact hi)), List.getElem?_append_left (hs.lt hi)]
  ·simp only [List.mem_append, List.mem_singleton, not_or]
   exact ⟨hn, fun e2 => hoe id rfl e2.symm⟩
  ·rw [List.getElem?_set_ne (fun e2 => hne (by rw [e2])), List.getElem?_append_left hj]
theorem VQ.fz {d : Nat} (h : VQ H sz z v o os ps ex) : ∃ H', Go.Ev.fz (d + 3) H v = some (.arr ps, H') ∧ H.length = H'.length ∧ ∀ j, o ≠ some j → some j ∉ os → H'[j]? = H[j]? := by
 rcases h with ⟨rfl, rfl, rfl, rfl, _⟩ | ⟨id, ep, es, rfl, rfl, hr, hs, hn⟩
 ·exact ⟨H, rfl, rfl, fun _ _ _ => rfl⟩
 ·have hl := hs.len
  obtain ⟨H2, f2, l2, k2⟩ := (hs.mono (H' := H.set id (.row sz (es ++ ex) ep false)) fun i hi => by rw [List.getElem?_set_ne (fun e2 => hn (by rw [e2]; exact hi))]).fz (d := d)
  refine ⟨H2, ?_, by rw [← l2]; simp, fun j hj hj2 => by rw [k2 j hj2, List.getElem?_set_ne (fun e2 => hj (by rw [e2]))]⟩
  show (match H[id]? with
   | some (.row z xs cur _) =>
    if ep = cur ∧ 0 + ps.length ≤ xs.length then
     (mapH (mapH (Go.Ev.fz (d + 2))) (H.set id (.row z xs cur false)) ((xs.drop 0).take ps.length)).map fun (p : List (List V) × Heap) => (V.arr p.1, p.2)
    else none
   | _ => none) = _
  rw [hr]
  simp only [true_and]
  rw [if_pos (by simp; omega), List.drop_zero, ← hl.1, List.take_left, f2]
  rfl
end
open Go Go.Ev
def SF (H H' : Heap) : Prop := ∀ (id z : Nat) (xs : List (List V)) (ep : Nat) (w : Bool), H[id]? = some (Ob.row z xs ep w) → ∃ w' : Bool, H'[id]? = some (Ob.row z xs ep w')
theorem SF.refl (H : Heap) : SF H H := fun _ _ _ _ w h => ⟨w, h⟩
theorem SF.trans {A B C : Heap} (h1 : SF A B) (h2 : SF B C) : SF A C := fun id z xs ep w h => by
 obtain ⟨w1, h3⟩ := h1 id z xs ep w h
 exact h2 id z xs ep w1 h3
theorem SF.low {H : Heap} {id z ep : Nat} {xs : List (List V)} {w : Bool} (h : H[id]? = some (.row z xs ep w)) : SF H (H.set id (.row z xs ep false)) := fun j z' xs' ep' w' hj => by
 by_cases e : id = j
 ·subst e
  rw [h] at hj
  cases hj
  exact ⟨false, List.getElem?_set_self (List.getElem?_eq_some_iff.1 h).1⟩
 ·exact ⟨w', by rw [List.getElem?_set_ne e]; exact hj⟩
theorem SF.both {H H' : Heap} {id z ep : Nat} {xs : List (List V)} {w w' : Bool} (hs : SF H H') (h : H[id]? = some (.row z xs ep w)) (h' : H'[id]? = some (.row z xs ep w')) : SF (H.set id (.row z xs ep false)) (H'.set id (.row z xs ep false)) := fun j z' xs' ep' w2 hj => by
 by_cases e : id = j
 ·subst e
  rw [List.getElem?_set_self (List.getElem?_eq_some_iff.1 h).1] at hj
  cases hj
  exact ⟨false, List.getElem?_set_self (List.getElem?_eq_some_iff.1 h').1⟩
 ·rw [List.getElem?_set_ne e] at hj
  obtain ⟨w3, h3⟩ := hs j _ _ _ _ hj
  exact ⟨w3, by rw [List.getElem?_set_ne e]; exact h3⟩
def Alike {α β : Type} (f : Heap → α → Option (β × Heap)) : Prop := ∀ x H t H1, f H x = some (t, H1) → SF H H1 ∧ ∀ H', SF H H' → ∃ H2, f H' x = some (t, H2) ∧ SF H1 H2
theorem Alike.map {α β : Type} {f : Heap → α → Option (β × Heap)} (hf : Alike f) : Alike (mapH f)
 | [], H, t, H1, h => by
  simp only [mapH, Option.some.injEq, Prod.mk.injEq] at h
  obtain ⟨rfl, rfl⟩ := h
  exact ⟨SF.refl _, fun H' hs => ⟨H', rfl, hs⟩⟩
 | x :: r, H, t, H1, h => by
  cases hy : f H x with
  | none => simp only [mapH, hy] at h; cases h
  | some q =>
   obtain ⟨y, Hy⟩ := q
   cases hr : mapH f Hy r with
   | none => simp only [mapH, hy, hr] at h; cases h
   | some q =>
    obtain ⟨ys, Hr⟩ := q
    simp only [mapH, hy, hr, Option.some.injEq, Prod.mk.injEq] at h
    obtain ⟨rfl, rfl⟩ := h
    obtain ⟨a1, a2⟩ := hf x H y Hy hy
    obtain ⟨b1, b2⟩ := hf.map r Hy ys Hr hr
    refine ⟨a1.trans b1, fun H' hs => ?_⟩
    obtain ⟨H2, c1, c2⟩ := a2 H' hs
    obtain ⟨H3, d1, d2⟩ := b2 H2 c2
    exact ⟨H3, by simp only [mapH, c1, d1], d2⟩
theorem fz_alike : ∀ d, Alike (Go.Ev.fz d)
 | 0, x, H, t, H1, h => by cases h
 | d + 1, x, H, t, H1, h => by
  have ih := fz_alike d
  have im := ih.map
  have key : ∀ (cs : List V) (k : List V → V), (mapH (Go.Ev.fz d) H cs).map (fun p => (k p.1, p.2)) = some (t, H1) → SF H H1 ∧ ∀ H', SF H H' → ∃ H2, (mapH (Go.Ev.fz d) H' cs).map (fun p => (k p.1, p.2)) = some (t, H2) ∧ SF H1 H2 := fun cs k hk => by
   simp only [Option.map_eq_some_iff, Prod.mk.injEq] at hk
   obtain ⟨⟨ts, Ht⟩, h1, h2, rfl⟩ := hk
   obtain ⟨a1, a2⟩ := im cs H ts Ht h1
   refine ⟨a1, fun H' hs => ?_⟩
   obtain ⟨H2, b1, b2⟩ := a2 H' hs
   exact ⟨H2, by simp only [b1, Option.map_some, h2], b2⟩
  have same : ∀ (v : V), (∀ h, Go.Ev.fz (d + 1) h x = some (v, h)) → SF H H1 ∧ ∀ H', SF H H' → ∃ H2, Go.Ev.fz (d + 1) H' x = some (t, H2) ∧ SF H1 H2 := fun v hv => by
   rw [hv] at h
   simp only [Option.some.injEq, Prod.mk.injEq] at h
   obtain ⟨rfl, rfl⟩ := h
   exact ⟨SF.refl _, fun H' hs => ⟨H', hv H', hs⟩⟩
  cases x
  case undef => cases h
  case ptr => cases h
  case eptr => cases h
  case map => cases h
  case agg cs => exact key cs .agg h
  case tup cs => exact key cs .tup h
  case ifc ty y =>
   simp only [Go.Ev.fz, Option.map_eq_some_iff, Prod.mk.injEq] at h
   obtain ⟨⟨ts, Ht⟩, h1, h2, rfl⟩ := h
   obtain ⟨a1, a2⟩ := ih y H ts Ht h1
   refine ⟨a1, fun H' hs => ?_⟩
   obtain ⟨H2, b1, b2⟩ := a2 H' hs
   exact ⟨H2, by simp only [Go.Ev.fz, b1, Option.map_some, h2], b2⟩
  case fn f first caps =>
   simp only [Go.Ev.fz] at h ⊢
   split at h
   ·cases h
   rename_i hy
   cases h1 : mapH (Go.Ev.fz d) H first with
   | none => rw [h1] at h; cases h
   | some q =>
    obtain ⟨f1, Hf⟩ := q
    rw [h1] at h
    simp only [Option.map_eq_some_iff, Prod.mk.injEq] at h
    obtain ⟨⟨ts, Ht⟩, h2, h3, rfl⟩ := h
    obtain ⟨a1, a2⟩ := im first H f1 Hf h1
    obtain ⟨b1, b2⟩ := im caps Hf ts Ht h2
    refine ⟨a1.trans b1, fun H' hs => ?_⟩
    obtain ⟨H2, c1, c2⟩ := a2 H' hs
    obtain ⟨H3, d1, d2⟩ := b2 H2 c2
    exact ⟨H3, by rw [if_neg hy]; simp only [c1, d1, Option.map_some, h3], d2⟩
  case sl id ep off len =>
   simp only [Go.Ev.fz] at h ⊢
   split at h
   ·rename_i z xs cur w hr
    split at h
    ·rename_i hc
     simp only [Option.map_eq_some_iff, Prod.mk.injEq] at h
     obtain ⟨⟨ts, Ht⟩, h1, h2, rfl⟩ := h
     obtain ⟨a1, a2⟩ := im.map _ _ _ _ h1
     refine ⟨(SF.low hr).trans a1, fun H' hs => ?_⟩
     obtain ⟨w', hr'⟩ := hs id z xs cur w hr
     obtain ⟨H2, b1, b2⟩ := a2 _ (hs.both hr hr')
     exact ⟨H2, by rw [hr']; simp only [if_pos hc, b1, Option.map_some, h2], b2⟩
    ·cases h
   ·cases h
  all_goals exact same _ (fun _ => rfl)
theorem fz_again {d : Nat} {H H1 : Heap} {v t : V} (h : Go.Ev.fz d H v = some (t, H1)) : SF H H1 ∧ ∀ H', SF H H' → ∃ H2, Go.Ev.fz d H' v = some (t, H2) ∧ SF H1 H2 := fz_alike d v H t H1 h
theorem xZ3 {f : FuncId} {cf : Cf} (hf : Φ f = some cf) (hp : cf.pure = true) {args ts : List V} {H H1 : Heap} {r : V} (ha : mapH (Go.Ev.fz fzDepth) H args = some (ts, H1)) (ht : mapH (Go.Ev.fz fzDepth) [] ts = some (ts, []))
  (hc : callW Φ (.fn (.func f) [] []) ts [] = some (r, [])) : callW Φ (.fn (.func f) [] []) args H = some (r, H1) := by
 obtain ⟨n, hn⟩ := jZC hc
 refine jZB (n := n) ?_
 cases n with
 | zero => cases hn
 | succ n =>
  simp only [evCall, hf, hp, if_true, List.nil_append, List.append_nil] at hn ⊢
  rw [ht] at hn
  rw [ha]
  simp only at hn ⊢
  split at hn
  ·cases hn
  ·rename_i r2 h2 hb
   simp only [Option.map_eq_some_iff, Prod.mk.injEq] at hn ⊢
   obtain ⟨p, h3, h4, _⟩ := hn
   exact ⟨p, h3, h4, trivial⟩
end Go.Proofs.Rc
