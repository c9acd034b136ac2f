/- The book's lists read. No conditions. -/
import Derived.Test.YtcfgiajpbjbdpaaGreatDoorScYc
set_option maxHeartbeats 16000000
set_option maxRecDepth 100000
set_option linter.unusedVariables false
set_option linter.unusedSimpArgs false
set_option linter.unusedSectionVars false
namespace Go.Proofs.Sc
open Go Go.Ev
def lIR (s : Bs) (o : Option (List Int × Bs)) (r : V) : Prop := match o with
 | some (l, rest) => r = .tup [.arr (l.map cI), .arr [], .int .i64 (s.length - rest.length : Nat), .bool true]
 | none => ∃ (l : List Int) (k : List Bs) (e : Nat), r = .tup [.arr (l.map cI), .arr (k.map cT), .int .i64 e, .bool false]
def nR (s : Bs) (o : Option (Int × Bs)) (r : V) : Prop := match o with
 | some (n, rest) => r = .tup [.int .i64 n, .int .i64 (s.length - rest.length : Nat), .bool true]
 | none => ∃ e : Nat, r = .tup [.int .i64 0, .int .i64 e, .bool false]
theorem listI_spec (s : Bs) (a : Nat) (hz : s.length < 2 ^ 40) (hal : a ≤ s.length) (H : Heap) : ∃ r, callW Φ zZH [T s, .int .i64 a, .bool false] H = some (r, H) ∧ (lIR s (items number (s.drop a) [])) r := by
 refine zYah zZH.Φ rfl (args := [T s, .int .i64 a, .bool false]) rfl ?_
 obtain ⟨P, hP⟩ : ∃ P : V → Heap → Prop, P = fun r h2 => ∃ r2 h3, fz fzDepth h2 r = some (r2, h3) ∧ (lIR s (items number (s.drop a) [])) r2 := ⟨_, rfl⟩
 suffices hgo : ∃ r h', evBodyW (callW Φ) zZH.c [T s, .int .i64 a, .bool false] [] = some (r, h') ∧ P r h' by rw [hP] at hgo; exact hgo
 have hPz : ∀ r r2 h2 h3, fz fzDepth h2 r = some (r2, h3) → (lIR s (items number (s.drop a) [])) r2 → P r h2 := fun r r2 h2 h3 hz hq => by rw [hP]; exact ⟨r2, h3, hz, hq⟩
 clear hP
 refine xZ4 (Nat.le_of_ble_eq_true rfl) (fun env he h0 => ?_)
 have g0 := h0 0 (by simp)
 change eget env 0 = T s at g0
 have g1 := h0 1 (by simp)
 change eget env 1 = .int .i64 a at g1
 have g2 := h0 2 (by simp)
 change eget env 2 = .bool false at g2
 clear h0
 simp [zZH.c] at he
 have hsuf : ∀ (s : Bs) (x : Int) (r : Bs), number s = some (x, r) → r.length ≤ s.length := fun s x r h => xZQ h
 have hback : ∀ {s : Bs} {x : Int} {r : Bs}, number s = some (x, r) → ∃ w, s = w ++ r := fun {s x r} h => ⟨itoa x, (vZl h).2⟩
 have hcall : ∀ (p : Nat), p ≤ s.length → ∃ r, (∀ h, callW Φ zZA [T s, .int .i64 p] h = some (r, h)) ∧ nR s (number (s.drop p)) r := fun p hp => by
  refine ⟨_, fun h => xZ0 s p hz hp h, ?_⟩
  cases hq : number (s.drop p) with
  | none => exact ⟨p, rfl⟩
  | some q => rfl
 have no : ∀ (n : Nat) h, items number (s.drop a) [] = none → P (.tup [.nils, .nils, .int .i64 n, .bool false]) h := fun n h hn => hPz _ (.tup [.arr [], .arr [], .int .i64 n, .bool false]) h h rfl (by rw [hn]; exact ⟨[], [], n, rfl⟩)
 have fin : ∀ (out : List Int) (v : V) (o : Option Nat) (h : Heap) (n : Nat) (b : Bool), VL h 1 v o (out.map cI) → lIR s (items number (s.drop a) []) (.tup [.arr (out.map cI), .arr [], .int .i64 n, .bool b]) → P (.tup [v, .nils, .int .i64 n, .bool b]) h := by
  intro out v o h n b hv hu
  obtain ⟨h3, f, _⟩ := hv.fz (d := 61)
  refine hPz _ _ _ h3 ?_ hu
  show (mapH (Go.Ev.fz 63) h [v, .nils, .int .i64 n, .bool b]).map (fun p => (V.tup p.1, p.2)) = _
  have fn : ∀ h : Heap, Go.Ev.fz 63 h .nils = some (.arr [], h) := fun h => rfl
  simp only [mapH, f, fn]
  rfl
 have neB : ∀ (b : UInt8) (c : UInt8) (x : Bool), x = (b == c) → ((b.toNat : Int) != (c.toNat : Int)) = !x := fun b c x hx => by unfold bne; rw [eqB b c x hx]
 have q91 : (((91 : UInt8).toNat : Nat) : Int) = 91 := rfl
 have q93 : (((93 : UInt8).toNat : Nat) : Int) = 93 := rfl
 have q32 : (((32 : UInt8).toNat : Nat) : Int) = 32 := rfl
 by_cases ca : a < s.length
 case neg =>
  have ca' : (s.length : Int) ≤ (a : Int) := by omega
  have hn := fun h => no a h (by rw [List.drop_eq_nil_of_le (by omega)]; rfl)
  simp [zZH.c, zZH.r0, zZH.r1, zZH.r2, g0, g1, he, vZm, ca', evPick, hn]
 have ca' : ¬ (s.length : Int) ≤ (a : Int) := by omega
 obtain ⟨b0, hb0⟩ : ∃ b, s[a]? = some b := ⟨_, List.getElem?_eq_getElem ca⟩
 have hdr0 : s.drop a = b0 :: s.drop (a + 1) := by rw [List.drop_eq_getElem_cons ca]; congr 1; exact (List.getElem?_eq_some_iff.1 hb0).2
 have ix0 := fun h : Heap => idx_T (h := h) (k := .i64) (n := (a : Int)) (by omega) (by simpa using hb0)
 by_cases c1 : b0 = 91
 case neg =>
  have q := neB b0 91 false (by simpa using c1)
  rw [q91] at q
  have hn := fun h => no a h (by rw [hdr0]; simp [items, c1])
  simp [zZH.c, zZH.r0, zZH.r1, zZH.r2, g0, g1, he, vZm, ca', ix0, q, evPick, hn]
 have q := neB b0 91 true (by simpa using c1)
 rw [q91] at q
 have hit : items number (s.drop a) [] = firstR number (s.drop (a + 1)) := by
  rw [hdr0, c1]
  simp only [items, if_true]
  cases s.drop (a + 1) <;> rfl
 have wa := wrap64 (n := (a : Int) + 1) (by omega) (by omega)
 simp [zZH.c, zZH.r0, zZH.r1, zZH.r3, zZH.r4, zZH.r5, g0, g1, he, vZm, ca', ix0, q, evPick, wa]
 obtain ⟨I, hI⟩ : ∃ I : Nat → St → Prop, I = fun m st => ∃ (i : Nat) (v : V) (o : Option Nat) (out : List Int), m = s.length - i ∧ i ≤ s.length ∧ (eget st.env 0 = T s ∧ eget st.env 1 = .int .i64 i ∧ eget st.env 2 = .bool false ∧ eget st.env 10 = v ∧ eget st.env 11 = .nils ∧ st.env.length = 93) ∧ st.marks = [] ∧ VL st.heap 1 v o (out.map cI) ∧ out.length ≤ i ∧ items number (s.drop a) [] = if out = [] then firstR number (s.drop i) else contR number (s.drop i) out := ⟨_, rfl⟩
 refine kLoop I (s.length - (a + 1)) (by rw [hI]; exact ⟨a + 1, .nils, none, [], rfl, by omega, ⟨by simp [g0], by simp [he], by simp [g2], by simp [he], by simp [he], by simp [he]⟩, rfl, VL.nil _ _, by simp, by rw [if_pos rfl]; exact hit⟩) ?_
 rintro m ⟨env, mk, Hh⟩ hst
 rw [hI] at hst
 obtain ⟨i, v, o, out, rfl, hi, ⟨k0, k1, k2, k10, k11, hl⟩, hm, hv, hol, hu⟩ := hst
 simp only at k0 k1 k2 k10 k11 hl hm hv
 obtain rfl := hm
 have wr := wrap64 (n := (i : Int) + 1) (by omega) (by omega)
 have hlen := fun h : Heap => hv.len h
 simp only [List.length_map] at hlen
 have lnil : ∀ h : Heap, evLen h .l .nils = some (.int .i64 0, h) := fun h => rfl
 simp only [zZH.b22]
 by_cases c : i < s.length
 case neg =>
  have cJ : ¬ (i : Int) < s.length := by omega
  have hnn : items number (s.drop a) [] = none := by
   rw [hu, List.drop_eq_nil_of_le (by omega)]
   by_cases ho : out = []
   ·rw [if_pos ho]; exact zYad rfl
   ·rw [if_neg ho]; rfl
  have hf := fin out v o Hh (i + 1) false hv (by rw [hnn]; exact ⟨out, [], _, rfl⟩)
  have ei : (((i + 1 : Nat)) : Int) = (i : Int) + 1 := by omega
  rw [ei] at hf
  simp [zZH.r6, zZH.r23, k0, k1, k10, k11, hl, vZm, c, cJ, evPick, wr, hf]
 have cJ : (i : Int) < s.length := by omega
 obtain ⟨b, hb⟩ : ∃ b, s[i]? = some b := ⟨_, List.getElem?_eq_getElem c⟩
 have hdr : s.drop i = b :: s.drop (i + 1) := by rw [List.drop_eq_getElem_cons c]; congr 1; exact (List.getElem?_eq_some_iff.1 hb).2
 have ix := fun h : Heap => idx_T (h := h) (k := .i64) (n := (i : Int)) (by omega) (by simpa using hb)
 by_cases c93 : b = 93
 ·have q := neB b 93 true (by simpa using c93)
  rw [q93] at q
  have hs : items number (s.drop a) [] = some (out, s.drop (i + 1)) := by
   rw [hu, hdr]
   by_cases ho : out = []
   ·rw [if_pos ho, ho]; simp only [firstR]; rw [if_pos c93]
   ·rw [if_neg ho]; simp only [contR]; rw [if_pos c93]
  have hf := fin out v o Hh (i + 1) true hv (by rw [hs]; show _ = _; rw [List.length_drop, show s.length - (s.length - (i + 1)) = i + 1 by omega])
  have ei : (((i + 1 : Nat)) : Int) = (i : Int) + 1 := by omega
  rw [ei] at hf
  simp [zZH.r6, zZH.r23, k0, k1, k10, k11, hl, vZm, c, cJ, ix, q, evPick, wr, hf]
 have q93' := neB b 93 false (by simpa using c93)
 rw [q93] at q93'
 have go : ∀ (p : Nat), i ≤ p → p ≤ s.length → items number (s.drop a) [] = itemsL number (s.drop p) out → ∃ r, (∀ h, callW Φ zZA [T s, .int .i64 p] h = some (r, h)) ∧ match number (s.drop p) with
   | none => (∃ (e : Nat), r = .tup [.int .i64 0, .int .i64 e, .bool false]) ∧ items number (s.drop a) [] = none
   | some (x, rest) => r = .tup [.int .i64 x, .int .i64 (s.length - rest.length : Nat), .bool true] ∧ p < s.length - rest.length ∧ s.length - rest.length ≤ s.length ∧ items number (s.drop a) [] = contR number (s.drop (s.length - rest.length)) (out ++ [x]) := by
  intro p hip hp hit
  obtain ⟨r, h1, h2⟩ := hcall p hp
  refine ⟨r, h1, ?_⟩
  cases ho : number (s.drop p) with
  | none =>
   rw [ho] at h2
   exact ⟨h2, hit.trans (zYad ho)⟩
  | some qq =>
   obtain ⟨x, rest⟩ := qq
   rw [ho] at h2
   obtain ⟨w, hw⟩ := hback ho
   obtain ⟨d1, d2, d3⟩ := suf_drop hw hp
   have hw0 : 0 < w.length := by
    have : w = itoa x := by
     have := (vZl ho).2
     rw [hw] at this
     exact List.append_cancel_right this
    rw [this]
    have := itoa_pos x; omega
   refine ⟨h2, by omega, by omega, ?_⟩
   rw [hit, zYaF hsuf ho, d1]
 have addX : ∀ x : Int, ∃ v' o' H2, evApp (Hh ++ [.row 1 [[.int .i64 x]] 0 true]) 1 8 v (.sl Hh.length 0 0 1) = some (v', H2) ∧ VL H2 1 v' o' ((out ++ [x]).map cI) := by
  intro x
  obtain ⟨v', o', H2, ha, hv2, _⟩ := hv.add (by_ := 8) (es := [cI x]) (plainR.map (enc := cI) (fun _ => rfl) (fun _ => rfl) (fun _ => rfl) [x]) (by simp [roomB]; omega)
  exact ⟨v', o', H2, ha, by simpa using hv2⟩
 have hbs := fun x : Int => bs1 Hh (.int .i64 0) (.int .i64 x) ⟨rfl, rfl⟩
 by_cases ho : out = []
 ·rw [if_pos ho, hdr] at hu
  have hu2 : items number (s.drop a) [] = itemsL number (s.drop i) out := by rw [hu, hdr, ho]; simp only [firstR]; rw [if_neg c93]
  obtain ⟨r, hc, hrr⟩ := go i (Nat.le_refl _) hi hu2
  have l0 : ¬ 0 < out.length := by rw [ho]; simp
  have l0' : ¬ (0 : Int) < (out.length : Int) := by omega
  have wl := wrap64 (n := (out.length : Int)) (by omega) (by omega)
  cases hq : number (s.drop i) with
  | none =>
   rw [hq] at hrr
   obtain ⟨hrr, hnn⟩ := hrr
   obtain ⟨e, rfl⟩ := hrr
   have hn := no i Hh hnn
   simp [zZH.r6, zZH.r7, zZH.r11, zZH.r17, zZH.r18, zZH.r19, k0, k1, k2, k10, k11, hl, vZm, c, cJ, ix, q93', hlen, lnil, wl, l0, l0', hc, evExt, evPick, hn]
  | some qq =>
   obtain ⟨x, rest⟩ := qq
   rw [hq] at hrr
   obtain ⟨rfl, hp1, hp2, hnx⟩ := hrr
   obtain ⟨v', o', H2, ha, hv2⟩ := addX x
   obtain ⟨e, he'⟩ : ∃ e, e = s.length - rest.length := ⟨_, rfl⟩
   rw [← he'] at hc hp1 hp2 hnx
   simp [zZH.r6, zZH.r7, zZH.r11, zZH.r17, zZH.r18, zZH.r20, zZH.r21, k0, k1, k2, k10, k11, hl, vZm, c, cJ, ix, q93', hlen, lnil, wl, l0, l0', hc, evExt, evPick, hbs, ha]
   refine ⟨s.length - e, by omega, ?_⟩
   rw [hI]
   exact ⟨e, v', o', out ++ [x], rfl, by omega, ⟨by simp [k0], by simp [hl], by simp [k2], by simp [hl], by simp [k11], by simp [hl]⟩, rfl, hv2, by simp; omega, by rw [if_neg (by simp)]; exact hnx⟩
 ·rw [if_neg ho, hdr] at hu
  have hpos := List.length_pos_iff.2 ho
  have l0 : 0 < out.length := hpos
  have l0' : (0 : Int) < (out.length : Int) := by omega
  have wl := wrap64 (n := (out.length : Int)) (by omega) (by omega)
  by_cases c32 : b = 32
  case neg =>
   have q32' := neB b 32 false (by simpa using c32)
   rw [q32] at q32'
   have hn := no i Hh (hu.trans (by simp only [contR]; rw [if_neg c93, if_neg c32]))
   simp [zZH.r6, zZH.r7, zZH.r8, zZH.r9, k0, k1, k2, k10, k11, hl, vZm, c, cJ, ix, q93', hlen, lnil, wl, l0, l0', q32', evPick, hn]
  have q32' := neB b 32 true (by simpa using c32)
  rw [q32] at q32'
  have hu2 : items number (s.drop a) [] = itemsL number (s.drop (i + 1)) out := by rw [hu]; simp only [contR]; rw [if_neg c93, if_pos c32]
  obtain ⟨r, hc, hrr⟩ := go (i + 1) (by omega) (by omega) hu2
  have ei : (((i + 1 : Nat)) : Int) = (i : Int) + 1 := by omega
  simp only [ei] at hc
  cases hq : number (s.drop (i + 1)) with
  | none =>
   rw [hq] at hrr
   obtain ⟨hrr, hnn⟩ := hrr
   obtain ⟨e, rfl⟩ := hrr
   have hn := no (i + 1) Hh hnn
   rw [ei] at hn
   simp [zZH.r6, zZH.r7, zZH.r8, zZH.r10, zZH.r11, zZH.r17, zZH.r18, zZH.r19, k0, k1, k2, k10, k11, hl, vZm, c, cJ, ix, q93', hlen, lnil, wl, l0, l0', q32', wr, hc, evExt, evPick, hn]
  | some qq =>
   obtain ⟨x, rest⟩ := qq
   rw [hq] at hrr
   obtain ⟨rfl, hp1, hp2, hnx⟩ := hrr
   obtain ⟨v', o', H2, ha, hv2⟩ := addX x
   obtain ⟨e, he'⟩ : ∃ e, e = s.length - rest.length := ⟨_, rfl⟩
   rw [← he'] at hc hp1 hp2 hnx
   simp [zZH.r6, zZH.r7, zZH.r8, zZH.r10, zZH.r11, zZH.r17, zZH.r18, zZH.r20, zZH.r21, k0, k1, k2, k10, k11, hl, vZm, c, cJ, ix, q93', hlen, lnil, wl, l0, l0', q32', wr, hc, evExt, evPick, hbs, ha]
   refine ⟨s.length - e, by omega, ?_⟩
   rw [hI]
   exact ⟨e, v', o', out ++ [x], rfl, by omega, ⟨by simp [k0], by simp [hl], by simp [k2], by simp [hl], by simp [k11], by simp [hl]⟩, rfl, hv2, by simp; omega, by rw [if_neg (by simp)]; exact hnx⟩
def lNR (s : Bs) (o : Option (List Bs × Bs)) (r : V) : Prop := match o with
 | some (l, rest) => r = .tup [.arr [], .arr (l.map cT), .int .i64 (s.length - rest.length : Nat), .bool true]
 | none => ∃ (l : List Int) (k : List Bs) (e : Nat), r = .tup [.arr (l.map cI), .arr (k.map cT), .int .i64 e, .bool false]
theorem listN_spec (s : Bs) (a : Nat) (hz : s.length < 2 ^ 40) (hal : a ≤ s.length) (H : Heap) : ∃ r, callW Φ zZH [T s, .int .i64 a, .bool true] H = some (r, H) ∧ (lNR s (items textR (s.drop a) [])) r := by
 refine zYah zZH.Φ rfl (args := [T s, .int .i64 a, .bool true]) rfl ?_
 obtain ⟨P, hP⟩ : ∃ P : V → Heap → Prop, P = fun r h2 => ∃ r2 h3, fz fzDepth h2 r = some (r2, h3) ∧ (lNR s (items textR (s.drop a) [])) r2 := ⟨_, rfl⟩
 suffices hgo : ∃ r h', evBodyW (callW Φ) zZH.c [T s, .int .i64 a, .bool true] [] = some (r, h') ∧ P r h' by rw [hP] at hgo; exact hgo
 have hPz : ∀ r r2 h2 h3, fz fzDepth h2 r = some (r2, h3) → (lNR s (items textR (s.drop a) [])) r2 → P r h2 := fun r r2 h2 h3 hz hq => by rw [hP]; exact ⟨r2, h3, hz, hq⟩
 clear hP
 refine xZ4 (Nat.le_of_ble_eq_true rfl) (fun env he h0 => ?_)
 have g0 := h0 0 (by simp)
 change eget env 0 = T s at g0
 have g1 := h0 1 (by simp)
 change eget env 1 = .int .i64 a at g1
 have g2 := h0 2 (by simp)
 change eget env 2 = .bool true at g2
 clear h0
 simp [zZH.c] at he
 have hsuf : ∀ (s : Bs) (x : Bs) (r : Bs), textR s = some (x, r) → r.length ≤ s.length := fun s x r h => xZW h
 have hback : ∀ {s : Bs} {x : Bs} {r : Bs}, textR s = some (x, r) → ∃ w, s = w ++ r := fun {s x r} h => ⟨quoteB x, jZn h⟩
 have hcall : ∀ (p : Nat), p ≤ s.length → ∃ r, (∀ h, callW Φ qZp [T s, .int .i64 p] h = some (r, h)) ∧ tR s (textR (s.drop p)) r := fun p hp => by
  obtain ⟨r, h1, h2⟩ := zYaa s p hz hp []
  refine ⟨r, fun h => ?_, h2⟩
  exact wZ3 (h0 := []) (h0' := []) qZp.Φ rfl (args := [T s, .int .i64 p]) («as» := [T s, .int .i64 p]) rfl rfl h1
 have no : ∀ (n : Nat) h, items textR (s.drop a) [] = none → P (.tup [.nils, .nils, .int .i64 n, .bool false]) h := fun n h hn => hPz _ (.tup [.arr [], .arr [], .int .i64 n, .bool false]) h h rfl (by rw [hn]; exact ⟨[], [], n, rfl⟩)
 have fin : ∀ (out : List Bs) (v : V) (o : Option Nat) (h : Heap) (n : Nat) (b : Bool), VL h 1 v o (out.map cT) → lNR s (items textR (s.drop a) []) (.tup [.arr [], .arr (out.map cT), .int .i64 n, .bool b]) → P (.tup [.nils, v, .int .i64 n, .bool b]) h := by
  intro out v o h n b hv hu
  obtain ⟨h3, f, _⟩ := hv.fz (d := 61)
  refine hPz _ _ _ h3 ?_ hu
  show (mapH (Go.Ev.fz 63) h [.nils, v, .int .i64 n, .bool b]).map (fun p => (V.tup p.1, p.2)) = _
  have fn : ∀ h : Heap, Go.Ev.fz 63 h .nils = some (.arr [], h) := fun h => rfl
  simp only [mapH, f, fn]
  rfl
 have neB : ∀ (b : UInt8) (c : UInt8) (x : Bool), x = (b == c) → ((b.toNat : Int) != (c.toNat : Int)) = !x := fun b c x hx => by unfold bne; rw [eqB b c x hx]
 have q91 : (((91 : UInt8).toNat : Nat) : Int) = 91 := rfl
 have q93 : (((93 : UInt8).toNat : Nat) : Int) = 93 := rfl
 have q32 : (((32 : UInt8).toNat : Nat) : Int) = 32 := rfl
 by_cases ca : a < s.length
 case neg =>
  have ca' : (s.length : Int) ≤ (a : Int) := by omega
  have hn := fun h => no a h (by rw [List.drop_eq_nil_of_le (by omega)]; rfl)
  simp [zZH.c, zZH.r0, zZH.r1, zZH.r2, g0, g1, he, vZm, ca', evPick, hn]
 have ca' : ¬ (s.length : Int) ≤ (a : Int) := by omega
 obtain ⟨b0, hb0⟩ : ∃ b, s[a]? = some b := ⟨_, List.getElem?_eq_getElem ca⟩
 have hdr0 : s.drop a = b0 :: s.drop (a + 1) := by rw [List.drop_eq_getElem_cons ca]; congr 1; exact (List.getElem?_eq_some_iff.1 hb0).2
 have ix0 := fun h : Heap => idx_T (h := h) (k := .i64) (n := (a : Int)) (by omega) (by simpa using hb0)
 by_cases c1 : b0 = 91
 case neg =>
  have q := neB b0 91 false (by simpa using c1)
  rw [q91] at q
  have hn := fun h => no a h (by rw [hdr0]; simp [items, c1])
  simp [zZH.c, zZH.r0, zZH.r1, zZH.r2, g0, g1, he, vZm, ca', ix0, q, evPick, hn]
 have q := neB b0 91 true (by simpa using c1)
 rw [q91] at q
 have hit : items textR (s.drop a) [] = firstR textR (s.drop (a + 1)) := by
  rw [hdr0, c1]
  simp only [items, if_true]
  cases s.drop (a + 1) <;> rfl
 have wa := wrap64 (n := (a : Int) + 1) (by omega) (by omega)
 simp [zZH.c, zZH.r0, zZH.r1, zZH.r3, zZH.r4, zZH.r5, g0, g1, he, vZm, ca', ix0, q, evPick, wa]
 obtain ⟨I, hI⟩ : ∃ I : Nat → St → Prop, I = fun m st => ∃ (i : Nat) (v : V) (o : Option Nat) (out : List Bs), m = s.length - i ∧ i ≤ s.length ∧ (eget st.env 0 = T s ∧ eget st.env 1 = .int .i64 i ∧ eget st.env 2 = .bool true ∧ eget st.env 11 = v ∧ eget st.env 10 = .nils ∧ st.env.length = 93) ∧ st.marks = [] ∧ VL st.heap 1 v o (out.map cT) ∧ out.length ≤ i ∧ items textR (s.drop a) [] = if out = [] then firstR textR (s.drop i) else contR textR (s.drop i) out := ⟨_, rfl⟩
 refine kLoop I (s.length - (a + 1)) (by rw [hI]; exact ⟨a + 1, .nils, none, [], rfl, by omega, ⟨by simp [g0], by simp [he], by simp [g2], by simp [he], by simp [he], by simp [he]⟩, rfl, VL.nil _ _, by simp, by rw [if_pos rfl]; exact hit⟩) ?_
 rintro m ⟨env, mk, Hh⟩ hst
 rw [hI] at hst
 obtain ⟨i, v, o, out, rfl, hi, ⟨k0, k1, k2, k11, k10, hl⟩, hm, hv, hol, hu⟩ := hst
 simp only at k0 k1 k2 k11 k10 hl hm hv
 obtain rfl := hm
 have wr := wrap64 (n := (i : Int) + 1) (by omega) (by omega)
 have hlen := fun h : Heap => hv.len h
 simp only [List.length_map] at hlen
 have lnil : ∀ h : Heap, evLen h .l .nils = some (.int .i64 0, h) := fun h => rfl
 simp only [zZH.b22]
 by_cases c : i < s.length
 case neg =>
  have cJ : ¬ (i : Int) < s.length := by omega
  have hnn : items textR (s.drop a) [] = none := by
   rw [hu, List.drop_eq_nil_of_le (by omega)]
   by_cases ho : out = []
   ·rw [if_pos ho]; exact zYad rfl
   ·rw [if_neg ho]; rfl
  have hf := fin out v o Hh (i + 1) false hv (by rw [hnn]; exact ⟨[], out, _, rfl⟩)
  have ei : (((i + 1 : Nat)) : Int) = (i : Int) + 1 := by omega
  rw [ei] at hf
  simp [zZH.r6, zZH.r23, k0, k1, k10, k11, hl, vZm, c, cJ, evPick, wr, hf]
 have cJ : (i : Int) < s.length := by omega
 obtain ⟨b, hb⟩ : ∃ b, s[i]? = some b := ⟨_, List.getElem?_eq_getElem c⟩
 have hdr : s.drop i = b :: s.drop (i + 1) := by rw [List.drop_eq_getElem_cons c]; congr 1; exact (List.getElem?_eq_some_iff.1 hb).2
 have ix := fun h : Heap => idx_T (h := h) (k := .i64) (n := (i : Int)) (by omega) (by simpa using hb)
 by_cases c93 : b = 93
 ·have q := neB b 93 true (by simpa using c93)
  rw [q93] at q
  have hs : items textR (s.drop a) [] = some (out, s.drop (i + 1)) := by
   rw [hu, hdr]
   by_cases ho : out = []
   ·rw [if_pos ho, ho]; simp only [firstR]; rw [if_pos c93]
   ·rw [if_neg ho]; simp only [contR]; rw [if_pos c93]
  have hf := fin out v o Hh (i + 1) true hv (by rw [hs]; show _ = _; rw [List.length_drop, show s.length - (s.length - (i + 1)) = i + 1 by omega])
  have ei : (((i + 1 : Nat)) : Int) = (i : Int) + 1 := by omega
  rw [ei] at hf
  simp [zZH.r6, zZH.r23, k0, k1, k10, k11, hl, vZm, c, cJ, ix, q, evPick, wr, hf]
 have q93' := neB b 93 false (by simpa using c93)
 rw [q93] at q93'
 have go : ∀ (p : Nat), i ≤ p → p ≤ s.length → items textR (s.drop a) [] = itemsL textR (s.drop p) out → ∃ r, (∀ h, callW Φ qZp [T s, .int .i64 p] h = some (r, h)) ∧ match textR (s.drop p) with
   | none => (∃ (t : Bs) (e : Nat), r = .tup [T t, .int .i64 e, .bool false]) ∧ items textR (s.drop a) [] = none
   | some (x, rest) => r = .tup [T x, .int .i64 (s.length - rest.length : Nat), .bool true] ∧ p < s.length - rest.length ∧ s.length - rest.length ≤ s.length ∧ items textR (s.drop a) [] = contR textR (s.drop (s.length - rest.length)) (out ++ [x]) := by
  intro p hip hp hit
  obtain ⟨r, h1, h2⟩ := hcall p hp
  refine ⟨r, h1, ?_⟩
  cases ho : textR (s.drop p) with
  | none =>
   rw [ho] at h2
   exact ⟨h2, hit.trans (zYad ho)⟩
  | some qq =>
   obtain ⟨x, rest⟩ := qq
   rw [ho] at h2
   obtain ⟨w, hw⟩ := hback ho
   obtain ⟨d1, d2, d3⟩ := suf_drop hw hp
   have hw0 : 0 < w.length := by
    have : w = quoteB x := by
     have := jZn ho
     rw [hw] at this
     exact List.append_cancel_right this
    rw [this]
    have := xZV x; omega
   refine ⟨h2, by omega, by omega, ?_⟩
   rw [hit, zYaF hsuf ho, d1]
 have addX : ∀ x : Bs, ∃ v' o' H2, evApp (Hh ++ [.row 1 [[T x]] 0 true]) 1 16 v (.sl Hh.length 0 0 1) = some (v', H2) ∧ VL H2 1 v' o' ((out ++ [x]).map cT) := by
  intro x
  obtain ⟨v', o', H2, ha, hv2, _⟩ := hv.add (by_ := 16) (es := [cT x]) (plainR.map (enc := cT) (fun _ => rfl) (fun _ => rfl) (fun _ => rfl) [x]) (by simp [roomB]; omega)
  exact ⟨v', o', H2, ha, by simpa using hv2⟩
 have hbs := fun x : Bs => bs1 Hh (.str ⟨#[]⟩) (T x) ⟨rfl, rfl⟩
 by_cases ho : out = []
 ·rw [if_pos ho, hdr] at hu
  have hu2 : items textR (s.drop a) [] = itemsL textR (s.drop i) out := by rw [hu, hdr, ho]; simp only [firstR]; rw [if_neg c93]
  obtain ⟨r, hc, hrr⟩ := go i (Nat.le_refl _) hi hu2
  have l0 : ¬ 0 < out.length := by rw [ho]; simp
  have l0' : ¬ (0 : Int) < (out.length : Int) := by omega
  have wl := wrap64 (n := (out.length : Int)) (by omega) (by omega)
  cases hq : textR (s.drop i) with
  | none =>
   rw [hq] at hrr
   obtain ⟨hrr, hnn⟩ := hrr
   obtain ⟨t, e, rfl⟩ := hrr
   have hn := no i Hh hnn
   simp [zZH.r6, zZH.r7, zZH.r11, zZH.r12, zZH.r13, zZH.r14, k0, k1, k2, k10, k11, hl, vZm, c, cJ, ix, q93', hlen, lnil, wl, l0, l0', hc, evExt, evPick, hn]
  | some qq =>
   obtain ⟨x, rest⟩ := qq
   rw [hq] at hrr
   obtain ⟨rfl, hp1, hp2, hnx⟩ := hrr
   obtain ⟨v', o', H2, ha, hv2⟩ := addX x
   obtain ⟨e, he'⟩ : ∃ e, e = s.length - rest.length := ⟨_, rfl⟩
   rw [← he'] at hc hp1 hp2 hnx
   simp [zZH.r6, zZH.r7, zZH.r11, zZH.r12, zZH.r13, zZH.r15, zZH.r16, k0, k1, k2, k10, k11, hl, vZm, c, cJ, ix, q93', hlen, lnil, wl, l0, l0', hc, evExt, evPick, hbs, ha]
   refine ⟨s.length - e, by omega, ?_⟩
   rw [hI]
   exact ⟨e, v', o', out ++ [x], rfl, by omega, ⟨by simp [k0], by simp [hl], by simp [k2], by simp [hl], by simp [k10], by simp [hl]⟩, rfl, hv2, by simp; omega, by rw [if_neg (by simp)]; exact hnx⟩
 ·rw [if_neg ho, hdr] at hu
  have hpos := List.length_pos_iff.2 ho
  have l0 : 0 < out.length := hpos
  have l0' : (0 : Int) < (out.length : Int) := by omega
  have wl := wrap64 (n := (out.length : Int)) (by omega) (by omega)
  by_cases c32 : b = 32
  case neg =>
   have q32' := neB b 32 false (by simpa using c32)
   rw [q32] at q32'
   have hn := no i Hh (hu.trans (by simp only [contR]; rw [if_neg c93, if_neg c32]))
   simp [zZH.r6, zZH.r7, zZH.r8, zZH.r9, k0, k1, k2, k10, k11, hl, vZm, c, cJ, ix, q93', hlen, lnil, wl, l0, l0', q32', evPick, hn]
  have q32' := neB b 32 true (by simpa using c32)
  rw [q32] at q32'
  have hu2 : items textR (s.drop a) [] = itemsL textR (s.drop (i + 1)) out := by rw [hu]; simp only [contR]; rw [if_neg c93, if_pos c32]
  obtain ⟨r, hc, hrr⟩ := go (i + 1) (by omega) (by omega) hu2
  have ei : (((i + 1 : Nat)) : Int) = (i : Int) + 1 := by omega
  simp only [ei] at hc
  cases hq : textR (s.drop (i + 1)) with
  | none =>
   rw [hq] at hrr
   obtain ⟨hrr, hnn⟩ := hrr
   obtain ⟨t, e, rfl⟩ := hrr
   have hn := no (i + 1) Hh hnn
   rw [ei] at hn
   simp [zZH.r6, zZH.r7, zZH.r8, zZH.r10, zZH.r11, zZH.r12, zZH.r13, zZH.r14, k0, k1, k2, k10, k11, hl, vZm, c, cJ, ix, q93', hlen, lnil, wl, l0, l0', q32', wr, hc, evExt, evPick, hn]
  | some qq =>
   obtain ⟨x, rest⟩ := qq
   rw [hq] at hrr
   obtain ⟨rfl, hp1, hp2, hnx⟩ := hrr
   obtain ⟨v', o', H2, ha, hv2⟩ := addX x
   obtain ⟨e, he'⟩ : ∃ e, e = s.length - rest.length := ⟨_, rfl⟩
   rw [← he'] at hc hp1 hp2 hnx
   simp [zZH.r6, zZH.r7, zZH.r8, zZH.r10, zZH.r11, zZH.r12, zZH.r13, zZH.r15, zZH.r16, k0, k1, k2, k10, k11, hl, vZm, c, cJ, ix, q93', hlen, lnil, wl, l0, l0', q32', wr, hc, evExt, evPick, hbs, ha]
   refine ⟨s.length - e, by omega, ?_⟩
   rw [hI]
   exact ⟨e, v', o', out ++ [x], rfl, by omega, ⟨by simp [k0], by simp [hl], by simp [k2], by simp [hl], by simp [k10], by simp [hl]⟩, rfl, hv2, by simp; omega, by rw [if_neg (by simp)]; exact hnx⟩
end Go.Proofs.Sc
