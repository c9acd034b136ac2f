/- Lists in the heap that are made by appending; a command in the heap. The book's words; lists compared. No conditions. -/
import Derived.Test.YtcfgiajpbjbdpaaGreatDoorScA
set_option maxHeartbeats 16000000
set_option maxRecDepth 100000
set_option linter.unusedVariables false
set_option linter.unusedSimpArgs false
set_option linter.unusedSectionVars false
namespace Go.Proofs.Sc
open Go Go.Ev
def plainR (sz : Nat) (xs : List (List V)) : Prop := ∀ e ∈ xs, e.length = sz ∧ e.all V.isCell = true ∧ e.all scal = true
theorem plainR.map {α : Type} {enc : α → List V} {sz : Nat} (h1 : ∀ x, (enc x).length = sz) (h2 : ∀ x, (enc x).all V.isCell = true) (h3 : ∀ x, (enc x).all scal = true) (l : List α) : plainR sz (l.map enc) := by
 intro e he
 obtain ⟨x, _, rfl⟩ := List.mem_map.1 he
 exact ⟨h1 x, h2 x, h3 x⟩
def VL (h : Heap) (sz : Nat) (v : V) (o : Option Nat) (xs : List (List V)) : Prop :=
 ((v = .nils ∨ v = .nile) ∧ xs = [] ∧ o = none) ∨
 ∃ id ep, o = some id ∧ v = .sl id ep 0 xs.length ∧ h[id]? = some (.row sz xs ep true) ∧ plainR sz xs
theorem VL.nil (h : Heap) (sz : Nat) : VL h sz .nils none [] := .inl ⟨.inl rfl, rfl, rfl⟩
theorem VL.nile (h : Heap) (sz : Nat) : VL h sz .nile none [] := .inl ⟨.inr rfl, rfl, rfl⟩
theorem VL.mono {h h' : Heap} {sz : Nat} {v : V} {o : Option Nat} {xs : List (List V)} (hs : VL h sz v o xs) (hh : ∀ id, o = some id → h'[id]? = h[id]?) : VL h' sz v o xs := by
 rcases hs with hs | ⟨id, ep, ho, hv, hr, hp⟩
 ·exact .inl hs
 ·exact .inr ⟨id, ep, ho, hv, by rw [hh id ho]; exact hr, hp⟩
theorem VL.lt {h : Heap} {sz : Nat} {v : V} {o : Option Nat} {xs : List (List V)} (hs : VL h sz v o xs) {id : Nat} (ho : o = some id) : id < h.length := by
 rcases hs with ⟨_, _, h1⟩ | ⟨id', ep, h1, hv, hr, hp⟩
 ·rw [h1] at ho; cases ho
 ·rw [h1] at ho; cases ho
  exact (List.getElem?_eq_some_iff.1 hr).1
theorem VL.push {h : Heap} {sz : Nat} {v : V} {o : Option Nat} {xs : List (List V)} (hs : VL h sz v o xs) (e : Heap) : VL (h ++ e) sz v o xs :=
 hs.mono fun id ho => List.getElem?_append_left (hs.lt ho)
theorem VL.len {h : Heap} {sz : Nat} {v : V} {o : Option Nat} {xs : List (List V)} (hs : VL h sz v o xs) (h2 : Heap) : evLen h2 .l v = some (.int .i64 xs.length, h2) := by
 rcases hs with ⟨rfl | rfl, rfl, _⟩ | ⟨id, ep, _, rfl, _, _⟩ <;> simp [evLen, lenV, qZ0]
theorem VL.pl {h : Heap} {sz : Nat} {v : V} {o : Option Nat} {xs : List (List V)} (hs : VL h sz v o xs) : plainR sz xs := by
 rcases hs with ⟨_, rfl, _⟩ | ⟨id, ep, _, _, _, hp⟩
 ·intro e he; cases he
 ·exact hp
theorem VL.cell {h : Heap} {sz : Nat} {v : V} {o : Option Nat} {xs : List (List V)} (hs : VL h sz v o xs) : v.isCell = true ∧ v.cells = [v] := by
 rcases hs with ⟨rfl | rfl, _⟩ | ⟨_, _, _, rfl, _⟩ <;> exact ⟨rfl, rfl⟩
theorem VL.ne {h : Heap} {sz : Nat} {v : V} {o : Option Nat} {xs : List (List V)} (hs : VL h sz v o xs) {a : Nat} {ob : Ob} (ha : h[a]? = some ob) (hn : ∀ z xs ep w, ob ≠ .row z xs ep w) : o ≠ some a := by
 rintro rfl
 rcases hs with ⟨_, _, h1⟩ | ⟨id', ep, h1, hv, hr, hp⟩
 ·cases h1
 ·cases h1
  rw [ha] at hr
  exact hn _ _ _ _ (Option.some.inj hr)
theorem zYaS {sz : Nat} {es : List (List V)} (he : plainR sz es) : szOk sz es = true := by
 simp only [szOk, List.all_eq_true, beq_iff_eq]
 exact fun x hx => (he x hx).1
theorem VL.app {h : Heap} {sz by_ : Nat} {v : V} {o : Option Nat} {xs : List (List V)} (hs : VL h sz v o xs) {es : List (List V)} (he : plainR sz es) {q : V} (hq : elemsOf h q = some es) (hroom : (xs.length + es.length) * by_ ≤ roomB) :
  ∃ v' o' h', evApp h sz by_ v q = some (v', h') ∧ VL h' sz v' o' (xs ++ es) ∧ h.length ≤ h'.length ∧ (∀ j, j < h.length → o ≠ some j → h'[j]? = h[j]?) ∧ ∀ id, o' = some id → o = some id ∨ h.length ≤ id := by
 have hsz := zYaS he
 rcases hs with ⟨hv, rfl, rfl⟩ | ⟨id, ep, rfl, rfl, hr, hp⟩
 ·cases es with
  | nil => exact ⟨v, none, h, by rcases hv with rfl | rfl <;> simp [evApp, hq], .inl ⟨hv, rfl, rfl⟩, Nat.le_refl _, fun _ _ _ => rfl, fun _ h => by cases h⟩
  | cons e es =>
   refine ⟨.sl h.length 0 0 (e :: es).length, some h.length, h ++ [.row sz (e :: es) 0 true], ?_, .inr ⟨h.length, 0, rfl, rfl, by simp, he⟩, by simp, fun j hj _ => by rw [List.getElem?_append_left hj], fun id hid => by cases hid; exact .inr (Nat.le_refl _)⟩
   simp only [List.length_nil, Nat.zero_add] at hroom
   rcases hv with rfl | rfl <;> simp only [evApp, hq, hroom, hsz, and_self, if_true, qZ0, qZ5]
 ·have hlt : id < h.length := (List.getElem?_eq_some_iff.1 hr).1
  cases es with
  | nil =>
   refine ⟨.sl id ep 0 xs.length, some id, h, by simp only [evApp, hq, hr], .inr ⟨id, ep, rfl, by simp, by simpa using hr, by simpa using hp⟩, Nat.le_refl _, fun _ _ _ => rfl, fun i hi => .inl hi⟩
  | cons e es =>
   have hpe : plainR sz (xs ++ e :: es) := by
    intro y hy
    rcases List.mem_append.1 hy with hy | hy
    ·exact hp y hy
    ·exact he y hy
   refine ⟨.sl id (ep + 1) 0 (xs.length + (e :: es).length), some id, h.set id (.row sz (xs ++ e :: es) (ep + 1) true), ?_,
    .inr ⟨id, ep + 1, rfl, by simp, by rw [List.getElem?_set_self hlt], hpe⟩, by simp, fun j hj hne => by rw [List.getElem?_set_ne (fun e => hne (by rw [e]))], fun i hi => .inl hi⟩
   simp only [evApp, hq, hr, hsz, hroom, and_self, if_true, qZ0, Nat.zero_add, qZX]
theorem VL.at {h : Heap} {sz : Nat} {v : V} {o : Option Nat} {xs : List (List V)} (hs : VL h sz v o xs) {k : IntKind} {n : Int} (h0 : 0 ≤ n) {e : List V} (he : xs[n.toNat]? = some e) :
  ∃ id ep, o = some id ∧ iaddrV h sz v (.int k n) = some (.eptr id ep n.toNat 0) ∧ ∀ off, cellsAt h (.eptr id ep n.toNat off) = some (e.drop off) := by
 have hi := (List.getElem?_eq_some_iff.1 he).1
 rcases hs with ⟨_, rfl, _⟩ | ⟨id, ep, rfl, rfl, hr, hp⟩
 ·simp at he
 ·refine ⟨id, ep, rfl, ?_, fun off => by simp only [cellsAt, hr, if_true, he, Option.map_some]⟩
  have h2 : n < (xs.length : Int) := by omega
  simp only [iaddrV, hr, Nat.zero_add, true_and]
  rw [if_pos ⟨h0, h2⟩, if_pos hi]
theorem VL.put {h : Heap} {sz : Nat} {v : V} {o : Option Nat} {xs : List (List V)} (hs : VL h sz v o xs) {k : IntKind} {n : Int} (h0 : 0 ≤ n) (hn : n.toNat < xs.length) {x : V} (hx : x.cells.length = sz ∧ x.cells.all V.isCell = true ∧ x.cells.all scal = true) :
  ∃ id ep h', o = some id ∧ iaddrV h sz v (.int k n) = some (.eptr id ep n.toNat 0) ∧ evStoreV h sz (.eptr id ep n.toNat 0) x = some (V.non, h') ∧ VL h' sz v o (xs.set n.toNat x.cells) ∧ h'.length = h.length ∧ ∀ j, o ≠ some j → h'[j]? = h[j]? := by
 rcases hs with ⟨_, rfl, _⟩ | ⟨id, ep, rfl, rfl, hr, hp⟩
 ·simp at hn
 ·have hlt : id < h.length := (List.getElem?_eq_some_iff.1 hr).1
  obtain ⟨e, he⟩ : ∃ e, xs[n.toNat]? = some e := ⟨_, List.getElem?_eq_getElem hn⟩
  have hel := (hp e (List.mem_of_getElem? he)).1
  refine ⟨id, ep, h.set id (.row sz (xs.set n.toNat x.cells) ep true), rfl, ?_, ?_, .inr ⟨id, ep, rfl, by simp, by rw [List.getElem?_set_self hlt], ?_⟩, by simp, fun j hj => by rw [List.getElem?_set_ne (fun e => hj (by rw [e]))]⟩
  ·have h2 : n < (xs.length : Int) := by omega
   simp only [iaddrV, hr, Nat.zero_add, true_and]
   rw [if_pos ⟨h0, h2⟩, if_pos hn]
  ·have hsr : setRange e 0 x.cells = some x.cells := by
    unfold setRange
    rw [if_pos (by omega), Nat.zero_add, List.drop_eq_nil_of_le (by omega)]
    simp
   simp only [evStoreV, hx.1, hx.2.1, and_self, if_true, evStore, hr, he, hsr, qZX]
  ·intro y hy
   rcases List.mem_or_eq_of_mem_set hy with hy | rfl
   ·exact hp y hy
   ·exact hx
theorem VL.fz {d : Nat} {h : Heap} {sz : Nat} {v : V} {o : Option Nat} {xs : List (List V)} (hs : VL h sz v o xs) : ∃ h', fz (d + 2) h v = some (.arr xs, h') ∧ h.length = h'.length ∧ ∀ j, o ≠ some j → h'[j]? = h[j]? := by
 rcases hs with ⟨rfl | rfl, rfl, rfl⟩ | ⟨id, ep, rfl, rfl, hr, hp⟩
 ·exact ⟨h, rfl, rfl, fun _ _ => rfl⟩
 ·exact ⟨h, rfl, rfl, fun _ _ => rfl⟩
 ·refine ⟨h.set id (.row sz xs ep false), ?_, by simp, fun j hj => by rw [List.getElem?_set_ne (fun e => hj (by rw [e]))]⟩
  have := fz_sl (d := d) (off := 0) (len := xs.length) hr (by simp) fun e he => (hp e he).2.2
  rw [this]
  simp
def SV (H : Heap) (v : V) (o : Option Nat) (xs : List (List V)) : Prop := (v = .arr xs ∧ o = none) ∨ VL H 1 v o xs
theorem SV.mono {H H' : Heap} {v : V} {o : Option Nat} {xs : List (List V)} (h : SV H v o xs) (hh : ∀ id, o = some id → H'[id]? = H[id]?) : SV H' v o xs := h.elim .inl fun h => .inr (h.mono hh)
theorem SV.cell {H : Heap} {v : V} {o : Option Nat} {xs : List (List V)} (h : SV H v o xs) : v.isCell = true ∧ v.cells = [v] := by
 rcases h with ⟨rfl, _⟩ | h
 ·exact ⟨rfl, rfl⟩
 ·exact h.cell
theorem SV.len {H : Heap} {v : V} {o : Option Nat} {xs : List (List V)} (h : SV H v o xs) (H2 : Heap) : evLen H2 .l v = some (.int .i64 xs.length, H2) := by
 rcases h with ⟨rfl, _⟩ | h
 ·exact vZi _
 ·exact h.len _
theorem SV.elems {H : Heap} {v : V} {o : Option Nat} {xs : List (List V)} (h : SV H v o xs) : elemsOf H v = some xs := by
 rcases h with ⟨rfl, _⟩ | ⟨rfl | rfl, rfl, _⟩ | ⟨id, ep, _, rfl, hr, _⟩
 ·rfl
 ·rfl
 ·rfl
 ·simp [elemsOf, hr]
theorem SV.fz {d : Nat} {H : Heap} {v : V} {o : Option Nat} {xs : List (List V)} (h : SV H v o xs) : ∃ H', fz (d + 2) H v = some (.arr xs, H') ∧ H.length = H'.length ∧ ∀ j, o ≠ some j → H'[j]? = H[j]? := by
 rcases h with ⟨rfl, _⟩ | h
 ·exact ⟨H, rfl, rfl, fun _ _ => rfl⟩
 ·exact h.fz
theorem SV.ne {H : Heap} {v : V} {o : Option Nat} {xs : List (List V)} (hs : SV H v o xs) {a : Nat} {ob : Ob} (ha : H[a]? = some ob) (hn : ∀ z xs ep w, ob ≠ .row z xs ep w) : o ≠ some a := by
 rcases hs with ⟨_, rfl⟩ | hs
 ·simp
 ·exact hs.ne ha hn
theorem SV.lt {H : Heap} {v : V} {o : Option Nat} {xs : List (List V)} (hs : SV H v o xs) {id : Nat} (ho : o = some id) : id < H.length := by
 rcases hs with ⟨_, h⟩ | hs
 ·rw [h] at ho; cases ho
 ·exact hs.lt ho
def Apart (a b : Option Nat) : Prop := ∀ id, a = some id → b ≠ some id
theorem Apart.symm {a b : Option Nat} (h : Apart a b) : Apart b a := fun id hb ha => h id ha hb
structure Cm (H : Heap) (v8 v9 v10 : V) (o8 o9 o10 : Option Nat) (c : Cmd) : Prop where
 d : SV H v8 o8 (c.data.map cU)
 l : SV H v9 o9 (c.list.map cI)
 k : SV H v10 o10 (c.names.map cT)
 a1 : Apart o8 o9
 a2 : Apart o8 o10
 a3 : Apart o9 o10
abbrev cV (c : Cmd) (v8 v9 v10 : V) : List V := [.int .u8 c.op, .int .i64 c.a, .int .i64 c.b, .int .i64 c.c, .int .i64 c.n, .int .i64 c.m, T c.s, T c.t, v8, v9, v10, .bool c.yes]
theorem Cm.mono {H H' : Heap} {v8 v9 v10 : V} {o8 o9 o10 : Option Nat} {c : Cmd} (h : Cm H v8 v9 v10 o8 o9 o10 c) (hh : ∀ id, (o8 = some id ∨ o9 = some id ∨ o10 = some id) → H'[id]? = H[id]?) : Cm H' v8 v9 v10 o8 o9 o10 c :=
 ⟨h.d.mono fun id e => hh id (.inl e), h.l.mono fun id e => hh id (.inr (.inl e)), h.k.mono fun id e => hh id (.inr (.inr e)), h.a1, h.a2, h.a3⟩
theorem Cm.cells {H : Heap} {v8 v9 v10 : V} {o8 o9 o10 : Option Nat} {c : Cmd} (h : Cm H v8 v9 v10 o8 o9 o10 c) : (cV c v8 v9 v10).all V.isCell = true := by
 simp only [List.all_cons, List.all_nil, h.d.cell.1, h.l.cell.1, h.k.cell.1]
 rfl
theorem Cm.fz {H : Heap} {v8 v9 v10 : V} {o8 o9 o10 : Option Nat} {c : Cmd} (h : Cm H v8 v9 v10 o8 o9 o10 c) (d : Nat) : ∃ H', fz (d + 3) H (.agg (cV c v8 v9 v10)) = some (.agg (cC c), H') := by
 obtain ⟨H1, f1, l1, k1⟩ := h.d.fz (d := d)
 obtain ⟨H2, f2, l2, k2⟩ := (h.l.mono (H' := H1) fun id e => k1 id (h.a1.symm id e)).fz (d := d)
 obtain ⟨H3, f3, l3, k3⟩ := ((h.k.mono (H' := H1) fun id e => k1 id (h.a2.symm id e)).mono (H' := H2) fun id e => k2 id (h.a3.symm id e)).fz (d := d)
 refine ⟨H3, ?_⟩
 have e : ∀ (H : Heap) (x : V), scal x = true → Go.Ev.fz (d + 2) H x = some (x, H) := fun H x hx => by
  cases x <;> simp [scal] at hx <;> rfl
 show (mapH (Go.Ev.fz (d + 2)) H (cV c v8 v9 v10)).map (fun p => (V.agg p.1, p.2)) = _
 simp only [mapH, e _ (.int .u8 c.op) rfl, e _ (.int .i64 c.a) rfl, e _ (.int .i64 c.b) rfl, e _ (.int .i64 c.c) rfl, e _ (.int .i64 c.n) rfl, e _ (.int .i64 c.m) rfl, e _ (T c.s) rfl, e _ (T c.t) rfl, f1, f2, f3, e _ (.bool c.yes) rfl, Option.map_some]
open Go Go.Ev
theorem iaddr_words {h : Heap} {op : Nat} (ho : op < 45) {k : IntKind} : iaddrV h 1 (.arr (W.map fun w => [T w])) (.int k op) = some (.iptr [T (word op)]) := by
 have h1 : W[op]? = some (word op) := by
  have := List.getElem?_eq_getElem (l := W) (i := op) (by rw [W_len]; exact ho)
  simp [word, this]
 exact wZm (enc := fun w => [T w]) (fun _ => rfl) h1
theorem wZp (op : Nat) (h : op < 256) (H : Heap) : callW Φ qZg [.int .u8 op] H = some (T (word op), H) := by
 have : ∃ hh, evBodyW (callW Φ) qZg.c [.int .u8 op] [] = some (T (word op), hh) := by
  refine wZg (Nat.le_of_ble_eq_true rfl) (fun env he h0 => ?_)
  have g0 := h0 0 (by simp)
  change eget env 0 = .int .u8 op at g0
  clear h0
  simp [qZg.c] at he
  have hk := fun H => wZc op h H
  have hw := fun H => words_spec H
  cases hko : known op
  ·have hwn : word op = [] := by
    by_cases hw : word op = []
    ·exact hw
    ·rw [zYay.2 hw] at hko; cases hko
   simp [qZg.c, qZg.r0, qZg.r1, qZg.r2, qZg.r3, g0, he, hk, hko, hwn]
  ·have hop : op < 45 := by simp [known] at hko; exact hko.2
   have hi := fun H => iaddr_words (h := H) hop (k := .u8)
   simp [qZg.c, qZg.r0, qZg.r1, qZg.r2, qZg.r3, g0, he, hk, hko, hw, hi]
 obtain ⟨h', hb⟩ := this
 exact qZ7 (h := H) qZg.Φ rfl (args := [.int .u8 op]) rfl hb rfl
def rowF : List (List V) := F.map fun f => [T f]
theorem rowF_get {op : Nat} (h : op < 45) : rowF[op]? = some [T (flds op)] := by
 have h2 : F[op]? = some (flds op) := by
  have := List.getElem?_eq_getElem (l := F) (i := op) h
  simp [flds, this]
 simp [rowF, h2]
theorem fields_slice : evBslice [] [.str ⟨#[]⟩] 45 1 ((zZS.r1.head?.map (fun c => match c.op with | .bslice _ _ _ ps => ps.map fun p => (p.1, p.2.ev []) | _ => [])).getD []) = some (.sl 0 0 0 45, [.row 1 rowF 0 true]) := by kernel_rfl
theorem jZf (op : Nat) (h : op < 256) (H : Heap) : callW Φ zZS [.int .u8 op] H = some (T (flds op), H) := by
 have : ∃ hh, evBodyW (callW Φ) zZS.c [.int .u8 op] [] = some (T (flds op), hh) := by
  have hs := fields_slice
  refine wZg (Nat.le_of_ble_eq_true rfl) (fun env he h0 => ?_)
  have g0 := h0 0 (by simp)
  change eget env 0 = .int .u8 op at g0
  clear h0
  simp [zZS.c] at he
  simp only [zZS.r1, List.head?_cons, Option.map_some, Option.getD_some, List.map_cons, List.map_nil, Od.ev] at hs
  have w64 := wrap64 (n := (op : Int)) (by omega) (by omega)
  by_cases c : op < 45
  ·have c1 : ¬ (45 ≤ (op : Int)) := by omega
   have hi : iaddrV [.row 1 rowF 0 true] 1 (.sl 0 0 0 45) (.int .u8 op) = some (.eptr 0 0 op 0) := by
    have : op < rowF.length := c
    simp [iaddrV, c, this]
    omega
   have hc : cellsAt [.row 1 rowF 0 true] (.eptr 0 0 op 0) = some [T (flds op)] := by simp [cellsAt, rowF_get c]
   simp [zZS.c, zZS.r0, zZS.r1, zZS.r2, zZS.r3, zZS.r4, g0, he, hs, w64, evConv, evLen, lenV, qZ0, c1, hi, hc]
  ·have c1 : (45 ≤ (op : Int)) := by omega
   obtain ⟨w1, w2⟩ := jZN c
   simp [zZS.c, zZS.r0, zZS.r1, zZS.r2, zZS.r3, zZS.r4, g0, he, hs, w64, evConv, evLen, lenV, qZ0, c1, w2]
 obtain ⟨h', hb⟩ := this
 exact qZ7 (h := H) zZS.Φ rfl (args := [.int .u8 op]) rfl hb rfl
theorem kZn (w : Bs) (H : Heap) : callW Φ zZN [T w] H = some (.tup [.int .u8 (find w), .bool (decide (find w ≠ 0))], H) := by
 have : ∃ hh, evBodyW (callW Φ) zZN.c [T w] [] = some (.tup [.int .u8 (find w), .bool (decide (find w ≠ 0))], hh) := by
  refine wZg (Nat.le_of_ble_eq_true rfl) (fun env he h0 => ?_)
  have g0 := h0 0 (by simp)
  change eget env 0 = T w at g0
  clear h0
  simp [zZN.c] at he
  simp [zZN.c, zZN.r0, zZN.r1, zZN.r7, g0, he]
  refine kLoop (fun m s => ∃ i, m = 45 - i ∧ 1 ≤ i ∧ i ≤ 45 ∧ eget s.env 0 = T w ∧ eget s.env 4 = .int .u8 i ∧ s.env.length = 14 ∧ s.marks = [] ∧ ∀ j, 1 ≤ j → j < i → word j ≠ w) 44
   ⟨1, rfl, by omega, by omega, by simpa using g0, by simp [he], by simpa using he, rfl, fun j h1 h2 => by omega⟩ ?_
  rintro m ⟨env, mk, Hh⟩ ⟨i, rfl, hi1, hi, k0, k4, hl, hm, hw⟩
  simp only at k0 k4 hl hm
  obtain rfl := hm
  by_cases c : i < 45
  ·have c1 : (i : Int) < 45 := by omega
   have hwd := wZp i (by omega) Hh
   have w8 := wrap8 (n := (i : Int) + 1) (by omega) (by omega)
   cases hq : word i == w
   ·have hne : word i ≠ w := by simpa using hq
    simp [zZN.b6, zZN.r2, zZN.r3, zZN.r4, zZN.r5, k0, k4, hl, c1, hwd, T_beq, hq, w8]
    exact ⟨44 - i, by omega, i + 1, by omega, by omega, by omega, by simp, fun j h1 h2 => by
     by_cases e : j = i
     ·subst e; exact hne
     ·exact hw j h1 (by omega)⟩
   ·have heq : word i = w := by simpa using hq
    have hfi := find_at (by simp [known]; omega) heq
    simp [zZN.b6, zZN.r2, zZN.r3, zZN.r4, zZN.r5, k0, k4, hl, c1, hwd, T_beq, hq, hfi]
    omega
  ·have c1 : ¬ (i : Int) < 45 := by omega
   have hi45 : i = 45 := by omega
   have hfn := find_not (w := w) fun j h1 h2 => hw j h1 (by omega)
   simp [zZN.c, zZN.r0, zZN.r1, zZN.r7, zZN.b6, zZN.r2, zZN.r3, zZN.r4, zZN.r5, k0, k4, hl, c1, hfn]
 obtain ⟨h', hb⟩ := this
 exact qZ7 (h := H) zZN.Φ rfl (args := [T w]) rfl hb rfl
theorem jZA (a b : List Nat) (h : a.length < 2 ^ 62) (H : Heap) : callW Φ zZi [.arr (a.map cU), .arr (b.map cU)] H = some (.bool (decide (a = b)), H) := by
 have : ∃ hh, evBodyW (callW Φ) zZi.c [.arr (a.map cU), .arr (b.map cU)] [] = some (.bool (decide (a = b)), hh) := by
  refine wZg (Nat.le_of_ble_eq_true rfl) (fun env he h0 => ?_)
  have g0 := h0 0 (by simp)
  change eget env 0 = .arr (a.map cU) at g0
  have g1 := h0 1 (by simp)
  change eget env 1 = .arr (b.map cU) at g1
  clear h0
  simp [zZi.c] at he
  cases hlen : ((a.length : Int) != b.length)
  ·have hl2 : a.length = b.length := by simp at hlen; omega
   have hll : (a.length : Int) = b.length := by omega
   simp [zZi.c, zZi.r0, zZi.r1, zZi.r2, zZi.r3, zZi.r10, g0, g1, he, hlen, hll]
   refine kLoop (fun m s => ∃ i : Nat, m = a.length - i ∧ i ≤ a.length ∧ eget s.env 0 = .arr (a.map cU) ∧ eget s.env 1 = .arr (b.map cU) ∧ eget s.env 12 = .int .i64 a.length ∧ eget s.env 13 = .int .i64 i ∧ s.env.length = 26 ∧ s.marks = [] ∧ a.take i = b.take i) a.length
    ⟨0, rfl, by omega, by simpa using g0, by simpa using g1, by simp [he, hll], by simp [he], by simpa using he, rfl, rfl⟩ ?_
   rintro m ⟨env, mk, Hh⟩ ⟨i, rfl, hi, k0, k1, k12, k13, hl, hm, hw⟩
   simp only at k0 k1 k12 k13 hl hm
   obtain rfl := hm
   by_cases c : i < a.length
   ·have c1 : (i : Int) < a.length := by omega
    obtain ⟨x, hx⟩ : ∃ x, a[i]? = some x := ⟨_, List.getElem?_eq_getElem c⟩
    obtain ⟨y, hy⟩ : ∃ y, b[i]? = some y := ⟨_, List.getElem?_eq_getElem (by omega)⟩
    have ia := zYal (h := Hh) (k := .i64) hx
    have ib := zYal (h := Hh) (k := .i64) hy
    have wr := wrap64 (n := (i : Int) + 1) (by omega) (by omega)
    simp [zZi.b9, zZi.r4, zZi.r5, zZi.r7, zZi.r8, k12, k13, hl, c1]
    refine kDraw1 zZi.r6.ord ?_
    cases hq : ((x : Int) != y)
    ·have hxy : x = y := by simp at hq; omega
     simp [zZi.r6, zZi.b9, zZi.r4, zZi.r5, zZi.r7, zZi.r8, k0, k1, k12, k13, hl, ia, ib, cU, hq, wr]
     exact ⟨a.length - (i + 1), by omega, i + 1, rfl, by omega, by simp, kZr hw hx (by rw [hy, hxy])⟩
    ·have hxy : x ≠ y := by simp at hq; omega
     have hne := ne_at hx hy hxy
     simp [zZi.r6, zZi.b9, zZi.r4, zZi.r5, zZi.r7, zZi.r8, k0, k1, k12, k13, hl, ia, ib, cU, hq, hne]
   ·have c1 : ¬ (i : Int) < a.length := by omega
    have hab : a = b := by
     rw [List.take_of_length_le (by omega), List.take_of_length_le (by omega)] at hw
     exact hw
    subst hab
    simp [zZi.b9, zZi.r4, zZi.r5, zZi.r7, zZi.r8, zZi.c, zZi.r0, zZi.r1, zZi.r2, zZi.r3, zZi.r10, k12, k13, hl, c]
  ·have hne : a ≠ b := fun e => by subst e; simp at hlen
   simp [zZi.c, zZi.r0, zZi.r1, zZi.r2, zZi.r3, zZi.r10, g0, g1, he, hlen, hne]
 obtain ⟨h', hb⟩ := this
 exact qZ7 (h := H) zZi.Φ rfl (args := [.arr (a.map cU), .arr (b.map cU)]) rfl hb rfl
theorem kZm (a b : List Int) (h : a.length < 2 ^ 62) (H : Heap) : callW Φ zZs [.arr (a.map cI), .arr (b.map cI)] H = some (.bool (decide (a = b)), H) := by
 have : ∃ hh, evBodyW (callW Φ) zZs.c [.arr (a.map cI), .arr (b.map cI)] [] = some (.bool (decide (a = b)), hh) := by
  refine wZg (Nat.le_of_ble_eq_true rfl) (fun env he h0 => ?_)
  have g0 := h0 0 (by simp)
  change eget env 0 = .arr (a.map cI) at g0
  have g1 := h0 1 (by simp)
  change eget env 1 = .arr (b.map cI) at g1
  clear h0
  simp [zZs.c] at he
  cases hlen : ((a.length : Int) != b.length)
  ·have hl2 : a.length = b.length := by simp at hlen; omega
   have hll : (a.length : Int) = b.length := by omega
   simp [zZs.c, zZs.r0, zZs.r1, zZs.r2, zZs.r3, zZs.r9, g0, g1, he, hlen, hll]
   refine kLoop (fun m s => ∃ i : Nat, m = a.length - i ∧ i ≤ a.length ∧ eget s.env 0 = .arr (a.map cI) ∧ eget s.env 1 = .arr (b.map cI) ∧ eget s.env 5 = .int .i64 i ∧ s.env.length = 26 ∧ s.marks = [] ∧ a.take i = b.take i) a.length
    ⟨0, rfl, by omega, by simpa using g0, by simpa using g1, by simp [he], by simpa using he, rfl, rfl⟩ ?_
   rintro m ⟨env, mk, Hh⟩ ⟨i, rfl, hi, k0, k1, k5, hl, hm, hw⟩
   simp only at k0 k1 k5 hl hm
   obtain rfl := hm
   by_cases c : i < a.length
   ·have c1 : (i : Int) < a.length := by omega
    obtain ⟨x, hx⟩ : ∃ x, a[i]? = some x := ⟨_, List.getElem?_eq_getElem c⟩
    obtain ⟨y, hy⟩ : ∃ y, b[i]? = some y := ⟨_, List.getElem?_eq_getElem (by omega)⟩
    have ia := zYaB (h := Hh) (k := .i64) hx
    have ib := zYaB (h := Hh) (k := .i64) hy
    have wr := wrap64 (n := (i : Int) + 1) (by omega) (by omega)
    simp [zZs.b8, zZs.r4, zZs.r6, zZs.r7, k0, k5, hl, c]
    refine kDraw1 zZs.r5.ord ?_
    cases hq : (x != y)
    ·have hxy : x = y := by simpa using hq
     simp [zZs.r5, zZs.b8, zZs.r4, zZs.r6, zZs.r7, k0, k1, k5, hl, ia, ib, cI, hq, wr]
     exact ⟨a.length - (i + 1), by omega, i + 1, rfl, by omega, by simp, kZr hw hx (by rw [hy, hxy])⟩
    ·have hxy : x ≠ y := by simpa using hq
     have hne := ne_at hx hy hxy
     simp [zZs.r5, zZs.b8, zZs.r4, zZs.r6, zZs.r7, k0, k1, k5, hl, ia, ib, cI, hq, hne]
   ·have c1 : ¬ (i : Int) < a.length := by omega
    have hab : a = b := by
     rw [List.take_of_length_le (by omega), List.take_of_length_le (by omega)] at hw
     exact hw
    subst hab
    simp [zZs.b8, zZs.r4, zZs.r6, zZs.r7, zZs.c, zZs.r0, zZs.r1, zZs.r2, zZs.r3, zZs.r9, k0, k5, hl, c]
  ·have hne : a ≠ b := fun e => by subst e; simp at hlen
   simp [zZs.c, zZs.r0, zZs.r1, zZs.r2, zZs.r3, zZs.r9, g0, g1, he, hlen, hne]
 obtain ⟨h', hb⟩ := this
 exact qZ7 (h := H) zZs.Φ rfl (args := [.arr (a.map cI), .arr (b.map cI)]) rfl hb rfl
end Go.Proofs.Sc
