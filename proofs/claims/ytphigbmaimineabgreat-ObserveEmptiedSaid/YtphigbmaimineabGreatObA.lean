/- Texts, lists in the heap, functions called. Lists compared; options, records, watches. No conditions. -/
import Derived.Test.YtphigbmaimineabGreatObC
import Derived.Test.YtphigbmaimineabGreatObO
import Derived.Test.YtphigbmaimineabGreatObBeg
set_option maxHeartbeats 16000000
set_option maxRecDepth 100000
set_option linter.unusedVariables false
set_option linter.unusedSimpArgs false
set_option linter.unusedSectionVars false
namespace Go.Proofs.Ob
open Go Go.Ev
abbrev Bs := List UInt8
abbrev T (l : Bs) : V := .str ⟨l.toArray⟩
theorem T_size (l : Bs) : (⟨l.toArray⟩ : ByteArray).size = l.length := by simp [ByteArray.size]
theorem T_list (l : Bs) : (⟨l.toArray⟩ : ByteArray).data.toList = l := by simp
theorem T_beq (a b : Bs) : beqS ⟨a.toArray⟩ ⟨b.toArray⟩ = (a == b) := by simp [beqS]
theorem T_get (l : Bs) (n : Nat) : (⟨l.toArray⟩ : ByteArray)[n]? = l[n]? := by
 by_cases h : n < l.length
 ·have h2 : n < (⟨l.toArray⟩ : ByteArray).size := by rw [T_size]; exact h
  rw [getElem?_pos _ n h2, List.getElem?_eq_getElem h]
  rfl
 ·have h2 : ¬ n < (⟨l.toArray⟩ : ByteArray).size := by rw [T_size]; exact h
  rw [getElem?_neg _ n h2, List.getElem?_eq_none (by omega)]
theorem T_extract (l : Bs) (a b : Nat) : (⟨l.toArray⟩ : ByteArray).extract a b = ⟨((l.take b).drop a).toArray⟩ := by
 apply ByteArray.ext
 simp [ByteArray.data_extract, List.extract_eq_take_drop, List.drop_take]
theorem T_app (a b : Bs) : (⟨a.toArray⟩ : ByteArray) ++ ⟨b.toArray⟩ = ⟨(a ++ b).toArray⟩ := by
 apply ByteArray.ext
 simp
theorem T_of (s : ByteArray) : ∃ l, V.str s = T l := ⟨s.data.toList, by simp⟩
section
variable {h : Heap}
theorem len_T (l : Bs) : evLen h .s (T l) = some (.int .i64 l.length, h) := by rw [len_str, T_size]
theorem beq_T (a b : Bs) : binV .eql (T a) (T b) = some (.bool (a == b)) := by rw [bin_seql, T_beq]
theorem bne_T (a b : Bs) : binV .neq (T a) (T b) = some (.bool (!(a == b))) := by rw [bin_sneq, T_beq]
end
theorem jZ7 {f : FuncId} {cf : Cf} (hf : Φ f = some cf) (hp : cf.pure = true) {args : List V} {h : Heap} {r' : V} (ha : args.all flatN2 = true)
  (hb : ∃ r h2, evBodyW (callW Φ) cf (args.map nz2) [] = some (r, h2) ∧ ∃ h3, fz fzDepth h2 r = some (r', h3)) : callW Φ (.fn (.func f) [] []) args h = some (r', h) := by
 obtain ⟨r, h2, hb, h3, hz⟩ := hb
 refine jZG hf hp (h1 := h) («as» := args.map nz2) ?_ hb hz
 simp only [List.nil_append, List.append_nil]
 exact jZw fun x hx => wZU (List.all_eq_true.1 ha x hx)
theorem wZi (H : Heap) (cs : List V) (off : Nat) : cellsAt (H ++ [.cells cs]) (.ptr H.length off) = some (cs.drop off) := by simp [cellsAt]
theorem store_last (H : Heap) (cs ys : List V) (off : Nat) : evStore (H ++ [.cells cs]) (.ptr H.length off) ys = (setRange cs off ys).map fun cs' => (V.non, H ++ [.cells cs']) := by
 simp only [evStore, List.getElem?_concat_length, qZ6]
 cases setRange cs off ys <;> simp
theorem wZc (H : Heap) (cs : List V) (hc : cs.all V.isCell = true) : evBox H cs = some (.ptr H.length 0, H ++ [.cells cs]) := by simp [evBox, hc, vZn]
def cI (n : Int) : List V := [.int .i64 n]
def cU (u : Nat) : List V := [.int .u16 u]
def cT (l : Bs) : List V := [T l]
theorem iaddr_cU {h : Heap} {l : List Nat} {k : IntKind} {i u : Nat} (hx : l[i]? = some u) : iaddrV h 1 (.arr (l.map cU)) (.int k i) = some (.iptr (cU u)) := vZ9 (enc := cU) (fun _ => rfl) hx
theorem iaddr_cI {h : Heap} {l : List Int} {k : IntKind} {i : Nat} {u : Int} (hx : l[i]? = some u) : iaddrV h 1 (.arr (l.map cI)) (.int k i) = some (.iptr (cI u)) := vZ9 (enc := cI) (fun _ => rfl) hx
theorem jZ9 {h : Heap} {l : List Bs} {k : IntKind} {i : Nat} {u : Bs} (hx : l[i]? = some u) : iaddrV h 1 (.arr (l.map cT)) (.int k i) = some (.iptr (cT u)) := vZ9 (enc := cT) (fun _ => rfl) hx
theorem wZp {α : Type} {a b : List α} {i : Nat} {x : α} (h : a.take i = b.take i) (ha : a[i]? = some x) (hb : b[i]? = some x) : a.take (i + 1) = b.take (i + 1) := by
 rw [List.take_add_one, List.take_add_one, h, ha, hb]
theorem ne_at {α : Type} {a b : List α} {i : Nat} {x y : α} (ha : a[i]? = some x) (hb : b[i]? = some y) (h : x ≠ y) : a ≠ b := fun e => by
 rw [e, hb] at ha
 exact h (Option.some.inj ha).symm
theorem vZw {H : Heap} {id off : Nat} {cs : List V} {x : V} (h : H[id]? = some (.cells cs)) (ho : off < cs.length) (hx : x.isCell = true ∧ x.cells = [x]) : evStoreV H 1 (.ptr id off) x = some (V.non, H.set id (.cells (cs.set off x))) := by
 have : setRange cs off [x] = some (cs.set off x) := by
  unfold setRange
  rw [if_pos (by simp; omega), List.set_eq_take_append_cons_drop, if_pos ho]
  simp
 simp [evStoreV, hx.1, hx.2, evStore, h, this]
theorem qZ4 {H : Heap} {id : Nat} {cs : List V} (h : H[id]? = some (.cells cs)) (off : Nat) : cellsAt H (.ptr id off) = some (cs.drop off) := by simp [cellsAt, h]
def plainR (sz : Nat) (xs : List (List V)) : Prop := ∀ e ∈ xs, e.length = sz ∧ e.all V.isCell = true ∧ e.all scal = true
theorem plainR.map {α : Type} {enc : α → List V} {sz : Nat} (h1 : ∀ x, (enc x).length = sz) (h2 : ∀ x, (enc x).all V.isCell = true) (h3 : ∀ x, (enc x).all scal = true) (l : List α) : plainR sz (l.map enc) := by
 intro e he
 obtain ⟨x, _, rfl⟩ := List.mem_map.1 he
 exact ⟨h1 x, h2 x, h3 x⟩
def VL (h : Heap) (sz : Nat) (v : V) (o : Option Nat) (xs : List (List V)) : Prop :=
 ((v = .nils ∨ v = .nile) ∧ xs = [] ∧ o = none) ∨
 ∃ id ep, o = some id ∧ v = .sl id ep 0 xs.length ∧ h[id]? = some (.row sz xs ep true) ∧ plainR sz xs
theorem VL.nil (h : Heap) (sz : Nat) : VL h sz .nils none [] := .inl ⟨.inl rfl, rfl, rfl⟩
theorem VL.nile (h : Heap) (sz : Nat) : VL h sz .nile none [] := .inl ⟨.inr rfl, rfl, rfl⟩
theorem VL.mono {h h' : Heap} {sz : Nat} {v : V} {o : Option Nat} {xs : List (List V)} (hs : VL h sz v o xs) (hh : ∀ id, o = some id → h'[id]? = h[id]?) : VL h' sz v o xs := by
 rcases hs with hs | ⟨id, ep, ho, hv, hr, hp⟩
 ·exact .inl hs
 ·exact .inr ⟨id, ep, ho, hv, by rw [hh id ho]; exact hr, hp⟩
theorem VL.lt {h : Heap} {sz : Nat} {v : V} {o : Option Nat} {xs : List (List V)} (hs : VL h sz v o xs) {id : Nat} (ho : o = some id) : id < h.length := by
 rcases hs with ⟨_, _, h1⟩ | ⟨id', ep, h1, hv, hr, hp⟩
 ·rw [h1] at ho; cases ho
 ·rw [h1] at ho; cases ho
  exact (List.getElem?_eq_some_iff.1 hr).1
theorem VL.push {h : Heap} {sz : Nat} {v : V} {o : Option Nat} {xs : List (List V)} (hs : VL h sz v o xs) (e : Heap) : VL (h ++ e) sz v o xs :=
 hs.mono fun id ho => List.getElem?_append_left (hs.lt ho)
theorem VL.len {h : Heap} {sz : Nat} {v : V} {o : Option Nat} {xs : List (List V)} (hs : VL h sz v o xs) (h2 : Heap) : evLen h2 .l v = some (.int .i64 xs.length, h2) := by
 rcases hs with ⟨rfl | rfl, rfl, _⟩ | ⟨id, ep, _, rfl, _, _⟩ <;> simp [evLen, lenV, vZm]
theorem VL.pl {h : Heap} {sz : Nat} {v : V} {o : Option Nat} {xs : List (List V)} (hs : VL h sz v o xs) : plainR sz xs := by
 rcases hs with ⟨_, rfl, _⟩ | ⟨id, ep, _, _, _, hp⟩
 ·intro e he; cases he
 ·exact hp
theorem VL.cell {h : Heap} {sz : Nat} {v : V} {o : Option Nat} {xs : List (List V)} (hs : VL h sz v o xs) : v.isCell = true ∧ v.cells = [v] := by
 rcases hs with ⟨rfl | rfl, _⟩ | ⟨_, _, _, rfl, _⟩ <;> exact ⟨rfl, rfl⟩
theorem VL.ne {h : Heap} {sz : Nat} {v : V} {o : Option Nat} {xs : List (List V)} (hs : VL h sz v o xs) {a : Nat} {ob : Ob} (ha : h[a]? = some ob) (hn : ∀ z xs ep w, ob ≠ .row z xs ep w) : o ≠ some a := by
 rintro rfl
 rcases hs with ⟨_, _, h1⟩ | ⟨id', ep, h1, hv, hr, hp⟩
 ·cases h1
 ·cases h1
  rw [ha] at hr
  exact hn _ _ _ _ (Option.some.inj hr)
theorem szOk_plain {sz : Nat} {es : List (List V)} (he : plainR sz es) : szOk sz es = true := by
 simp only [szOk, List.all_eq_true, beq_iff_eq]
 exact fun x hx => (he x hx).1
theorem VL.app {h : Heap} {sz by_ : Nat} {v : V} {o : Option Nat} {xs : List (List V)} (hs : VL h sz v o xs) {es : List (List V)} (he : plainR sz es) {q : V} (hq : elemsOf h q = some es) (hroom : (xs.length + es.length) * by_ ≤ roomB) :
  ∃ v' o' h', evApp h sz by_ v q = some (v', h') ∧ VL h' sz v' o' (xs ++ es) ∧ h.length ≤ h'.length ∧ (∀ j, j < h.length → o ≠ some j → h'[j]? = h[j]?) ∧ ∀ id, o' = some id → o = some id ∨ h.length ≤ id := by
 have hsz := szOk_plain he
 rcases hs with ⟨hv, rfl, rfl⟩ | ⟨id, ep, rfl, rfl, hr, hp⟩
 ·cases es with
  | nil => exact ⟨v, none, h, by rcases hv with rfl | rfl <;> simp [evApp, hq], .inl ⟨hv, rfl, rfl⟩, Nat.le_refl _, fun _ _ _ => rfl, fun _ h => by cases h⟩
  | cons e es =>
   refine ⟨.sl h.length 0 0 (e :: es).length, some h.length, h ++ [.row sz (e :: es) 0 true], ?_, .inr ⟨h.length, 0, rfl, rfl, by simp, he⟩, by simp, fun j hj _ => by rw [List.getElem?_append_left hj], fun id hid => by cases hid; exact .inr (Nat.le_refl _)⟩
   simp only [List.length_nil, Nat.zero_add] at hroom
   rcases hv with rfl | rfl <;> simp only [evApp, hq, hroom, hsz, and_self, if_true, vZm, vZn]
 ·have hlt : id < h.length := (List.getElem?_eq_some_iff.1 hr).1
  cases es with
  | nil =>
   refine ⟨.sl id ep 0 xs.length, some id, h, by simp only [evApp, hq, hr], .inr ⟨id, ep, rfl, by simp, by simpa using hr, by simpa using hp⟩, Nat.le_refl _, fun _ _ _ => rfl, fun i hi => .inl hi⟩
  | cons e es =>
   have hpe : plainR sz (xs ++ e :: es) := by
    intro y hy
    rcases List.mem_append.1 hy with hy | hy
    ·exact hp y hy
    ·exact he y hy
   refine ⟨.sl id (ep + 1) 0 (xs.length + (e :: es).length), some id, h.set id (.row sz (xs ++ e :: es) (ep + 1) true), ?_,
    .inr ⟨id, ep + 1, rfl, by simp, by rw [List.getElem?_set_self hlt], hpe⟩, by simp, fun j hj hne => by rw [List.getElem?_set_ne (fun e => hne (by rw [e]))], fun i hi => .inl hi⟩
   simp only [evApp, hq, hr, hsz, hroom, and_self, if_true, vZm, Nat.zero_add, qZ6]
theorem VL.at {h : Heap} {sz : Nat} {v : V} {o : Option Nat} {xs : List (List V)} (hs : VL h sz v o xs) {k : IntKind} {n : Int} (h0 : 0 ≤ n) {e : List V} (he : xs[n.toNat]? = some e) :
  ∃ id ep, o = some id ∧ iaddrV h sz v (.int k n) = some (.eptr id ep n.toNat 0) ∧ ∀ off, cellsAt h (.eptr id ep n.toNat off) = some (e.drop off) := by
 have hi := (List.getElem?_eq_some_iff.1 he).1
 rcases hs with ⟨_, rfl, _⟩ | ⟨id, ep, rfl, rfl, hr, hp⟩
 ·simp at he
 ·refine ⟨id, ep, rfl, ?_, fun off => by simp only [cellsAt, hr, if_true, he, Option.map_some]⟩
  have h2 : n < (xs.length : Int) := by omega
  simp only [iaddrV, hr, Nat.zero_add, true_and]
  rw [if_pos ⟨h0, h2⟩, if_pos hi]
theorem VL.put {h : Heap} {sz : Nat} {v : V} {o : Option Nat} {xs : List (List V)} (hs : VL h sz v o xs) {k : IntKind} {n : Int} (h0 : 0 ≤ n) (hn : n.toNat < xs.length) {x : V} (hx : x.cells.length = sz ∧ x.cells.all V.isCell = true ∧ x.cells.all scal = true) :
  ∃ id ep h', o = some id ∧ iaddrV h sz v (.int k n) = some (.eptr id ep n.toNat 0) ∧ evStoreV h sz (.eptr id ep n.toNat 0) x = some (V.non, h') ∧ VL h' sz v o (xs.set n.toNat x.cells) ∧ h'.length = h.length ∧ ∀ j, o ≠ some j → h'[j]? = h[j]? := by
 rcases hs with ⟨_, rfl, _⟩ | ⟨id, ep, rfl, rfl, hr, hp⟩
 ·simp at hn
 ·have hlt : id < h.length := (List.getElem?_eq_some_iff.1 hr).1
  obtain ⟨e, he⟩ : ∃ e, xs[n.toNat]? = some e := ⟨_, List.getElem?_eq_getElem hn⟩
  have hel := (hp e (List.mem_of_getElem? he)).1
  refine ⟨id, ep, h.set id (.row sz (xs.set n.toNat x.cells) ep true), rfl, ?_, ?_, .inr ⟨id, ep, rfl, by simp, by rw [List.getElem?_set_self hlt], ?_⟩, by simp, fun j hj => by rw [List.getElem?_set_ne (fun e => hj (by rw [e]))]⟩
  ·have h2 : n < (xs.length : Int) := by omega
   simp only [iaddrV, hr, Nat.zero_add, true_and]
   rw [if_pos ⟨h0, h2⟩, if_pos hn]
  ·have hsr : setRange e 0 x.cells = some x.cells := by
    unfold setRange
    rw [if_pos (by omega), Nat.zero_add, List.drop_eq_nil_of_le (by omega)]
    simp
   simp only [evStoreV, hx.1, hx.2.1, and_self, if_true, evStore, hr, he, hsr, qZ6]
  ·intro y hy
   rcases List.mem_or_eq_of_mem_set hy with hy | rfl
   ·exact hp y hy
   ·exact hx
theorem VL.fz {d : Nat} {h : Heap} {sz : Nat} {v : V} {o : Option Nat} {xs : List (List V)} (hs : VL h sz v o xs) : ∃ h', fz (d + 2) h v = some (.arr xs, h') ∧ h.length = h'.length ∧ ∀ j, o ≠ some j → h'[j]? = h[j]? := by
 rcases hs with ⟨rfl | rfl, rfl, rfl⟩ | ⟨id, ep, rfl, rfl, hr, hp⟩
 ·exact ⟨h, rfl, rfl, fun _ _ => rfl⟩
 ·exact ⟨h, rfl, rfl, fun _ _ => rfl⟩
 ·refine ⟨h.set id (.row sz xs ep false), ?_, by simp, fun j hj => by rw [List.getElem?_set_ne (fun e => hj (by rw [e]))]⟩
  have := fz_sl (d := d) (off := 0) (len := xs.length) hr (by simp) fun e he => (hp e he).2.2
  rw [this]
  simp
def SV (H : Heap) (v : V) (o : Option Nat) (xs : List (List V)) : Prop := (v = .arr xs ∧ o = none) ∨ VL H 1 v o xs
theorem SV.mono {H H' : Heap} {v : V} {o : Option Nat} {xs : List (List V)} (h : SV H v o xs) (hh : ∀ id, o = some id → H'[id]? = H[id]?) : SV H' v o xs := h.elim .inl fun h => .inr (h.mono hh)
theorem SV.cell {H : Heap} {v : V} {o : Option Nat} {xs : List (List V)} (h : SV H v o xs) : v.isCell = true ∧ v.cells = [v] := by
 rcases h with ⟨rfl, _⟩ | h
 ·exact ⟨rfl, rfl⟩
 ·exact h.cell
theorem SV.len {H : Heap} {v : V} {o : Option Nat} {xs : List (List V)} (h : SV H v o xs) (H2 : Heap) : evLen H2 .l v = some (.int .i64 xs.length, H2) := by
 rcases h with ⟨rfl, _⟩ | h
 ·exact qZO _
 ·exact h.len _
theorem SV.elems {H : Heap} {v : V} {o : Option Nat} {xs : List (List V)} (h : SV H v o xs) : elemsOf H v = some xs := by
 rcases h with ⟨rfl, _⟩ | ⟨rfl | rfl, rfl, _⟩ | ⟨id, ep, _, rfl, hr, _⟩
 ·rfl
 ·rfl
 ·rfl
 ·simp [elemsOf, hr]
theorem SV.fz {d : Nat} {H : Heap} {v : V} {o : Option Nat} {xs : List (List V)} (h : SV H v o xs) : ∃ H', fz (d + 2) H v = some (.arr xs, H') ∧ H.length = H'.length ∧ ∀ j, o ≠ some j → H'[j]? = H[j]? := by
 rcases h with ⟨rfl, _⟩ | h
 ·exact ⟨H, rfl, rfl, fun _ _ => rfl⟩
 ·exact h.fz
theorem SV.ne {H : Heap} {v : V} {o : Option Nat} {xs : List (List V)} (hs : SV H v o xs) {a : Nat} {ob : Ob} (ha : H[a]? = some ob) (hn : ∀ z xs ep w, ob ≠ .row z xs ep w) : o ≠ some a := by
 rcases hs with ⟨_, rfl⟩ | hs
 ·simp
 ·exact hs.ne ha hn
theorem SV.lt {H : Heap} {v : V} {o : Option Nat} {xs : List (List V)} (hs : SV H v o xs) {id : Nat} (ho : o = some id) : id < H.length := by
 rcases hs with ⟨_, h⟩ | hs
 ·rw [h] at ho; cases ho
 ·exact hs.lt ho
def Apart (a b : Option Nat) : Prop := ∀ id, a = some id → b ≠ some id
theorem Apart.symm {a b : Option Nat} (h : Apart a b) : Apart b a := fun id hb ha => h id ha hb
theorem callW_fzP {f : FuncId} {cf : Cf} (hf : Φ f = some cf) (hp : cf.pure = true) {args : List V} {h : Heap} {Q : V → Prop} (ha : args.all flatN2 = true)
  (hb : ∃ r h2, evBodyW (callW Φ) cf (args.map nz2) [] = some (r, h2) ∧ ∃ r2 h3, fz fzDepth h2 r = some (r2, h3) ∧ Q r2) : ∃ r, callW Φ (.fn (.func f) [] []) args h = some (r, h) ∧ Q r := by
 obtain ⟨r, h2, hb, r2, h3, hz, hq⟩ := hb
 exact ⟨r2, jZ7 hf hp ha ⟨r, h2, hb, h3, hz⟩, hq⟩
theorem WO_of_WK {call : CallF} {l : List Cp} {s : St} {R : St → Prop} (h : WK call none (fun e s' => e = .normal ∧ R s') [.o l] s) : ∃ s1, WO call l s (fun r => r = s1) ∧ R s1 := by
 simp only [WK] at h
 obtain ⟨s1, h1, _, h2⟩ := h
 exact ⟨s1, ⟨s1, h1, rfl⟩, h2⟩
theorem WO_eq {call : CallF} {a : List Cp} {s s1 : St} {Q : St → Prop} (h : WO call a s (fun r => r = s1)) (hq : Q s1) : WO call a s Q := by
 obtain ⟨_, h1, rfl⟩ := h
 exact ⟨_, h1, hq⟩
theorem kDrawW {call : CallF} {rnd : Option Nat} {Q : Ex → St → Prop} {s : St} {k : List It} {ops : List Cp} {af : List (List Nat)} {fl l : List Nat} {ls : List (List Nat)} (h : orders2 ops af ops.length (List.replicate ops.length false) = some (l :: ls))
  (hw : WK call none (fun e r => e = .normal ∧ (∀ l' ∈ ls, WK call none (fun e' r' => e' = .normal ∧ r' = r) [.o (l'.filterMap (ops[·]?))] s) ∧ WK call rnd Q k r) [.o (l.filterMap (ops[·]?))] s) : WK call rnd Q (.c (.draw ops af fl) :: k) s := by
 obtain ⟨s1, h1, h2, h3⟩ := WO_of_WK hw
 exact kDraw2 h (WO_eq h1 ⟨fun l' hl' => by
  obtain ⟨s2, h4, rfl⟩ := WO_of_WK (h2 l' hl')
  exact h4, h3⟩)
theorem vZ8 {h : Heap} (x y : Bool) : evEqc h false (.leaf .b) (.bool x) (.bool y) = some (.bool (x == y), h) := by cases x <;> cases y <;> rfl
theorem jZI {f : FuncId} {cf : Cf} (hf : Φ f = some cf) (hp : cf.pure = false) {caps args : List V} {h : Heap} {P : V → Heap → Prop} (hn : (args ++ caps).length ≤ cf.ntmps)
  (hw : ∀ env : List V, env.length = cf.ntmps → (∀ i, i < (args ++ caps).length → eget env i = eget (args ++ caps) i) → WK (callW Φ) none (FinX cf.results P) [.c cf.body] { env := env, marks := [], heap := h }) :
  ∃ r h', callW Φ (.fn (.func f) [] caps) args h = some (r, h') ∧ P r h' := by
 obtain ⟨r, h', h1, h2⟩ := kZU (call := callW Φ) (cf := cf) (P := P) hn hw
 refine ⟨r, h', kZi hf hp ?_, h2⟩
 simpa using h1
theorem vZ2 {H : Heap} {p : Nat} {a : List V} (h : H[p]? = some (.cells a)) (b : List V) : (H.set p (.cells b))[p]? = some (.cells b) := by
 rw [List.getElem?_set_self (List.getElem?_eq_some_iff.1 h).1]
open Go Go.Ev
theorem jZ1 (a b : List Nat) (h : a.length < 2 ^ 62) (H : Heap) : callW Φ zZt [.arr (a.map cU), .arr (b.map cU)] H = some (.bool (decide (a = b)), H) := by
 have : ∃ hh, evBodyW (callW Φ) zZt.c [.arr (a.map cU), .arr (b.map cU)] [] = some (.bool (decide (a = b)), hh) := by
  refine jZa (Nat.le_of_ble_eq_true rfl) (fun env he h0 => ?_)
  have g0 := h0 0 (by simp)
  change eget env 0 = .arr (a.map cU) at g0
  have g1 := h0 1 (by simp)
  change eget env 1 = .arr (b.map cU) at g1
  clear h0
  simp [zZt.c] at he
  cases hlen : ((a.length : Int) != b.length)
  ·have hl2 : a.length = b.length := by simp at hlen; omega
   have hll : (a.length : Int) = b.length := by omega
   simp [zZt.c, zZt.r0, zZt.r1, zZt.r2, zZt.r3, zZt.r10, g0, g1, he, hlen, hll]
   refine kLoop (fun m s => ∃ i : Nat, m = a.length - i ∧ i ≤ a.length ∧ eget s.env 0 = .arr (a.map cU) ∧ eget s.env 1 = .arr (b.map cU) ∧ eget s.env 12 = .int .i64 a.length ∧ eget s.env 13 = .int .i64 i ∧ s.env.length = 26 ∧ s.marks = [] ∧ a.take i = b.take i) a.length
    ⟨0, rfl, by omega, by simpa using g0, by simpa using g1, by simp [he, hll], by simp [he], by simpa using he, rfl, rfl⟩ ?_
   rintro m ⟨env, mk, Hh⟩ ⟨i, rfl, hi, k0, k1, k12, k13, hl, hm, hw⟩
   simp only at k0 k1 k12 k13 hl hm
   obtain rfl := hm
   by_cases c : i < a.length
   ·have c1 : (i : Int) < a.length := by omega
    obtain ⟨x, hx⟩ : ∃ x, a[i]? = some x := ⟨_, List.getElem?_eq_getElem c⟩
    obtain ⟨y, hy⟩ : ∃ y, b[i]? = some y := ⟨_, List.getElem?_eq_getElem (by omega)⟩
    have ia := iaddr_cU (h := Hh) (k := .i64) hx
    have ib := iaddr_cU (h := Hh) (k := .i64) hy
    have wr := wrap64 (n := (i : Int) + 1) (by omega) (by omega)
    simp [zZt.b9, zZt.r4, zZt.r5, zZt.r7, zZt.r8, k12, k13, hl, c1]
    refine kDraw1 zZt.r6.ord ?_
    cases hq : ((x : Int) != y)
    ·have hxy : x = y := by simp at hq; omega
     simp [zZt.r6, zZt.b9, zZt.r4, zZt.r5, zZt.r7, zZt.r8, k0, k1, k12, k13, hl, ia, ib, cU, hq, wr]
     exact ⟨a.length - (i + 1), by omega, i + 1, rfl, by omega, by simp, wZp hw hx (by rw [hy, hxy])⟩
    ·have hxy : x ≠ y := by simp at hq; omega
     have hne := ne_at hx hy hxy
     simp [zZt.r6, zZt.b9, zZt.r4, zZt.r5, zZt.r7, zZt.r8, k0, k1, k12, k13, hl, ia, ib, cU, hq, hne]
   ·have c1 : ¬ (i : Int) < a.length := by omega
    have hab : a = b := by
     rw [List.take_of_length_le (by omega), List.take_of_length_le (by omega)] at hw
     exact hw
    subst hab
    simp [zZt.b9, zZt.r4, zZt.r5, zZt.r7, zZt.r8, zZt.c, zZt.r0, zZt.r1, zZt.r2, zZt.r3, zZt.r10, k12, k13, hl, c]
  ·have hne : a ≠ b := fun e => by subst e; simp at hlen
   simp [zZt.c, zZt.r0, zZt.r1, zZt.r2, zZt.r3, zZt.r10, g0, g1, he, hlen, hne]
 obtain ⟨h', hb⟩ := this
 exact vZG (h := H) zZt.Φ rfl (args := [.arr (a.map cU), .arr (b.map cU)]) rfl hb rfl
theorem wZY (a b : List Int) (h : a.length < 2 ^ 62) (H : Heap) : callW Φ zZC [.arr (a.map cI), .arr (b.map cI)] H = some (.bool (decide (a = b)), H) := by
 have : ∃ hh, evBodyW (callW Φ) zZC.c [.arr (a.map cI), .arr (b.map cI)] [] = some (.bool (decide (a = b)), hh) := by
  refine jZa (Nat.le_of_ble_eq_true rfl) (fun env he h0 => ?_)
  have g0 := h0 0 (by simp)
  change eget env 0 = .arr (a.map cI) at g0
  have g1 := h0 1 (by simp)
  change eget env 1 = .arr (b.map cI) at g1
  clear h0
  simp [zZC.c] at he
  cases hlen : ((a.length : Int) != b.length)
  ·have hl2 : a.length = b.length := by simp at hlen; omega
   have hll : (a.length : Int) = b.length := by omega
   simp [zZC.c, zZC.r0, zZC.r1, zZC.r2, zZC.r3, zZC.r9, g0, g1, he, hlen, hll]
   refine kLoop (fun m s => ∃ i : Nat, m = a.length - i ∧ i ≤ a.length ∧ eget s.env 0 = .arr (a.map cI) ∧ eget s.env 1 = .arr (b.map cI) ∧ eget s.env 5 = .int .i64 i ∧ s.env.length = 26 ∧ s.marks = [] ∧ a.take i = b.take i) a.length
    ⟨0, rfl, by omega, by simpa using g0, by simpa using g1, by simp [he], by simpa using he, rfl, rfl⟩ ?_
   rintro m ⟨env, mk, Hh⟩ ⟨i, rfl, hi, k0, k1, k5, hl, hm, hw⟩
   simp only at k0 k1 k5 hl hm
   obtain rfl := hm
   by_cases c : i < a.length
   ·have c1 : (i : Int) < a.length := by omega
    obtain ⟨x, hx⟩ : ∃ x, a[i]? = some x := ⟨_, List.getElem?_eq_getElem c⟩
    obtain ⟨y, hy⟩ : ∃ y, b[i]? = some y := ⟨_, List.getElem?_eq_getElem (by omega)⟩
    have ia := iaddr_cI (h := Hh) (k := .i64) hx
    have ib := iaddr_cI (h := Hh) (k := .i64) hy
    have wr := wrap64 (n := (i : Int) + 1) (by omega) (by omega)
    simp [zZC.b8, zZC.r4, zZC.r6, zZC.r7, k0, k5, hl, c]
    refine kDraw1 zZC.r5.ord ?_
    cases hq : (x != y)
    ·have hxy : x = y := by simpa using hq
     simp [zZC.r5, zZC.b8, zZC.r4, zZC.r6, zZC.r7, k0, k1, k5, hl, ia, ib, cI, hq, wr]
     exact ⟨a.length - (i + 1), by omega, i + 1, rfl, by omega, by simp, wZp hw hx (by rw [hy, hxy])⟩
    ·have hxy : x ≠ y := by simpa using hq
     have hne := ne_at hx hy hxy
     simp [zZC.r5, zZC.b8, zZC.r4, zZC.r6, zZC.r7, k0, k1, k5, hl, ia, ib, cI, hq, hne]
   ·have c1 : ¬ (i : Int) < a.length := by omega
    have hab : a = b := by
     rw [List.take_of_length_le (by omega), List.take_of_length_le (by omega)] at hw
     exact hw
    subst hab
    simp [zZC.b8, zZC.r4, zZC.r6, zZC.r7, zZC.c, zZC.r0, zZC.r1, zZC.r2, zZC.r3, zZC.r9, k0, k5, hl, c]
  ·have hne : a ≠ b := fun e => by subst e; simp at hlen
   simp [zZC.c, zZC.r0, zZC.r1, zZC.r2, zZC.r3, zZC.r9, g0, g1, he, hlen, hne]
 obtain ⟨h', hb⟩ := this
 exact vZG (h := H) zZC.Φ rfl (args := [.arr (a.map cI), .arr (b.map cI)]) rfl hb rfl
theorem jZ2 (a b : List Bs) (h : a.length < 2 ^ 62) (H : Heap) : callW Φ zZy [.arr (a.map cT), .arr (b.map cT)] H = some (.bool (decide (a = b)), H) := by
 have : ∃ hh, evBodyW (callW Φ) zZy.c [.arr (a.map cT), .arr (b.map cT)] [] = some (.bool (decide (a = b)), hh) := by
  refine jZa (Nat.le_of_ble_eq_true rfl) (fun env he h0 => ?_)
  have g0 := h0 0 (by simp)
  change eget env 0 = .arr (a.map cT) at g0
  have g1 := h0 1 (by simp)
  change eget env 1 = .arr (b.map cT) at g1
  clear h0
  simp [zZy.c] at he
  cases hlen : ((a.length : Int) != b.length)
  ·have hl2 : a.length = b.length := by simp at hlen; omega
   have hll : (a.length : Int) = b.length := by omega
   simp [zZy.c, zZy.r0, zZy.r1, zZy.r2, zZy.r3, zZy.r9, g0, g1, he, hlen, hll]
   refine kLoop (fun m s => ∃ i : Nat, m = a.length - i ∧ i ≤ a.length ∧ eget s.env 0 = .arr (a.map cT) ∧ eget s.env 1 = .arr (b.map cT) ∧ eget s.env 5 = .int .i64 i ∧ s.env.length = 26 ∧ s.marks = [] ∧ a.take i = b.take i) a.length
    ⟨0, rfl, by omega, by simpa using g0, by simpa using g1, by simp [he], by simpa using he, rfl, rfl⟩ ?_
   rintro m ⟨env, mk, Hh⟩ ⟨i, rfl, hi, k0, k1, k5, hl, hm, hw⟩
   simp only at k0 k1 k5 hl hm
   obtain rfl := hm
   by_cases c : i < a.length
   ·have c1 : (i : Int) < a.length := by omega
    obtain ⟨x, hx⟩ : ∃ x, a[i]? = some x := ⟨_, List.getElem?_eq_getElem c⟩
    obtain ⟨y, hy⟩ : ∃ y, b[i]? = some y := ⟨_, List.getElem?_eq_getElem (by omega)⟩
    have ia := jZ9 (h := Hh) (k := .i64) hx
    have ib := jZ9 (h := Hh) (k := .i64) hy
    have wr := wrap64 (n := (i : Int) + 1) (by omega) (by omega)
    simp [zZy.b8, zZy.r4, zZy.r6, zZy.r7, k0, k5, hl, c]
    refine kDraw1 zZy.r5.ord ?_
    cases hq : (!(x == y))
    ·have hxy : x = y := by simpa using hq
     simp [zZy.r5, zZy.b8, zZy.r4, zZy.r6, zZy.r7, k0, k1, k5, hl, ia, ib, cT, T_beq, hq, wr]
     exact ⟨a.length - (i + 1), by omega, i + 1, rfl, by omega, by simp, wZp hw hx (by rw [hy, hxy])⟩
    ·have hxy : x ≠ y := by simpa using hq
     have hne := ne_at hx hy hxy
     simp [zZy.r5, zZy.b8, zZy.r4, zZy.r6, zZy.r7, k0, k1, k5, hl, ia, ib, cT, T_beq, hq, hne]
   ·have c1 : ¬ (i : Int) < a.length := by omega
    have hab : a = b := by
     rw [List.take_of_length_le (by omega), List.take_of_length_le (by omega)] at hw
     exact hw
    subst hab
    simp [zZy.b8, zZy.r4, zZy.r6, zZy.r7, zZy.c, zZy.r0, zZy.r1, zZy.r2, zZy.r3, zZy.r9, k0, k5, hl, c]
  ·have hne : a ≠ b := fun e => by subst e; simp at hlen
   simp [zZy.c, zZy.r0, zZy.r1, zZy.r2, zZy.r3, zZy.r9, g0, g1, he, hlen, hne]
 obtain ⟨h', hb⟩ := this
 exact vZG (h := H) zZy.Φ rfl (args := [.arr (a.map cT), .arr (b.map cT)]) rfl hb rfl
theorem vZ5 (a b : List Bs) (h : a.length < 2 ^ 62) (H : Heap) : callW Φ zZe [.arr (a.map cT), .arr (b.map cT)] H = some (.bool (decide (a = b)), H) := by
 have : ∃ hh, evBodyW (callW Φ) zZe.c [.arr (a.map cT), .arr (b.map cT)] [] = some (.bool (decide (a = b)), hh) := by
  refine jZa (Nat.le_of_ble_eq_true rfl) (fun env he h0 => ?_)
  have g0 := h0 0 (by simp)
  change eget env 0 = .arr (a.map cT) at g0
  have g1 := h0 1 (by simp)
  change eget env 1 = .arr (b.map cT) at g1
  clear h0
  simp [zZe.c] at he
  cases hlen : ((a.length : Int) != b.length)
  ·have hl2 : a.length = b.length := by simp at hlen; omega
   have hll : (a.length : Int) = b.length := by omega
   simp [zZe.c, zZe.r0, zZe.r1, zZe.r2, zZe.r3, zZe.r10, g0, g1, he, hlen, hll]
   refine kLoop (fun m s => ∃ i : Nat, m = a.length - i ∧ i ≤ a.length ∧ eget s.env 0 = .arr (a.map cT) ∧ eget s.env 1 = .arr (b.map cT) ∧ eget s.env 12 = .int .i64 a.length ∧ eget s.env 13 = .int .i64 i ∧ s.env.length = 26 ∧ s.marks = [] ∧ a.take i = b.take i) a.length
    ⟨0, rfl, by omega, by simpa using g0, by simpa using g1, by simp [he, hll], by simp [he], by simpa using he, rfl, rfl⟩ ?_
   rintro m ⟨env, mk, Hh⟩ ⟨i, rfl, hi, k0, k1, k12, k13, hl, hm, hw⟩
   simp only at k0 k1 k12 k13 hl hm
   obtain rfl := hm
   by_cases c : i < a.length
   ·have c1 : (i : Int) < a.length := by omega
    obtain ⟨x, hx⟩ : ∃ x, a[i]? = some x := ⟨_, List.getElem?_eq_getElem c⟩
    obtain ⟨y, hy⟩ : ∃ y, b[i]? = some y := ⟨_, List.getElem?_eq_getElem (by omega)⟩
    have ia := jZ9 (h := Hh) (k := .i64) hx
    have ib := jZ9 (h := Hh) (k := .i64) hy
    have wr := wrap64 (n := (i : Int) + 1) (by omega) (by omega)
    simp [zZe.b9, zZe.r4, zZe.r5, zZe.r7, zZe.r8, k12, k13, hl, c1]
    refine kDraw1 zZe.r6.ord ?_
    cases hq : (!(x == y))
    ·have hxy : x = y := by simpa using hq
     simp [zZe.r6, zZe.b9, zZe.r4, zZe.r5, zZe.r7, zZe.r8, k0, k1, k12, k13, hl, ia, ib, cT, T_beq, hq, wr]
     exact ⟨a.length - (i + 1), by omega, i + 1, rfl, by omega, by simp, wZp hw hx (by rw [hy, hxy])⟩
    ·have hxy : x ≠ y := by simpa using hq
     have hne := ne_at hx hy hxy
     simp [zZe.r6, zZe.b9, zZe.r4, zZe.r5, zZe.r7, zZe.r8, k0, k1, k12, k13, hl, ia, ib, cT, T_beq, hq, hne]
   ·have c1 : ¬ (i : Int) < a.length := by omega
    have hab : a = b := by
     rw [List.take_of_length_le (by omega), List.take_of_length_le (by omega)] at hw
     exact hw
    subst hab
    simp [zZe.b9, zZe.r4, zZe.r5, zZe.r7, zZe.r8, zZe.c, zZe.r0, zZe.r1, zZe.r2, zZe.r3, zZe.r10, k12, k13, hl, c]
  ·have hne : a ≠ b := fun e => by subst e; simp at hlen
   simp [zZe.c, zZe.r0, zZe.r1, zZe.r2, zZe.r3, zZe.r10, g0, g1, he, hlen, hne]
 obtain ⟨h', hb⟩ := this
 exact vZG (h := H) zZe.Φ rfl (args := [.arr (a.map cT), .arr (b.map cT)]) rfl hb rfl
end Go.Proofs.Ob
