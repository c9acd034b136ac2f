/- The fields' functions found; a command's line. What an op has not is no matter: the law's walk. No conditions. -/
import Derived.Test.YtcfgiajpbjbdpaaGreatDoorScK
set_option maxHeartbeats 16000000
set_option maxRecDepth 100000
set_option linter.unusedVariables false
set_option linter.unusedSimpArgs false
set_option linter.unusedSectionVars false
namespace Go.Proofs.Sc
open Go Go.Ev
def wrF (n : Nat) (r : UInt8) : V :=
 if r = 65 then .fn (.func qZO.k) [] [.ptr (n + 1) 0] else if r = 66 then .fn (.func qZO.k) [] [.ptr (n + 3) 0] else if r = 67 then .fn (.func qZO.k) [] [.ptr (n + 5) 0]
 else if r = 78 then .fn (.func qZO.k) [] [.ptr (n + 7) 0] else if r = 77 then .fn (.func qZO.k) [] [.ptr (n + 9) 0] else if r = 83 then .fn (.func qZH.k) [] [.ptr (n + 11) 0]
 else if r = 84 then .fn (.func qZH.k) [] [.ptr (n + 13) 0] else if r = 68 then qZo else if r = 76 then zZK else if r = 75 then zZG else qZf
def rdF (n : Nat) (r : UInt8) : V :=
 if r = 65 then .fn (.func qZF.k) [] [.ptr (n + 1) 0] else if r = 66 then .fn (.func qZF.k) [] [.ptr (n + 3) 0] else if r = 67 then .fn (.func qZF.k) [] [.ptr (n + 5) 0]
 else if r = 78 then .fn (.func qZF.k) [] [.ptr (n + 7) 0] else if r = 77 then .fn (.func qZF.k) [] [.ptr (n + 9) 0] else if r = 83 then .fn (.func qZr.k) [] [.ptr (n + 11) 0]
 else if r = 84 then .fn (.func qZr.k) [] [.ptr (n + 13) 0] else if r = 68 then qZe else if r = 76 then qZz else if r = 75 then qZn else qZa
theorem zYaR {n : Nat} {r : UInt8} (hr : r ∈ letters) {H : Heap} (hm : H[n]? = some (.map (fM n) 11)) : evLook H (.leaf .i) false (.agg [.nilf, .nilf]) (.map n) (.int .i32 r.toNat) = some (.agg [wrF n r, rdF n r], H) := by
 simp only [letters, List.mem_cons, List.not_mem_nil, or_false] at hr
 rcases hr with rfl | rfl | rfl | rfl | rfl | rfl | rfl | rfl | rfl | rfl | rfl <;>
  simp [evLook, keyOk, eqdV, cellEq, hm, findKey, fM, found, wrF, rdF, fR]
def Box (n : Nat) (H : Heap) : Prop := H[n + 1]? = some (.cells [qZs]) ∧ H[n + 3]? = some (.cells [qZt]) ∧ H[n + 5]? = some (.cells [qZu]) ∧ H[n + 7]? = some (.cells [qZv]) ∧ H[n + 9]? = some (.cells [qZw]) ∧
 H[n + 11]? = some (.cells [qZx]) ∧ H[n + 13]? = some (.cells [qZy])
theorem wr_call {n p : Nat} {r : UInt8} (hr : r ∈ letters) {c : Cmd} (z : SzL c) {H : Heap} (hc : H[p]? = some (.cells (cC c))) (hb : Box n H) : ∃ H', callW Φ (wrF n r) [.ptr p 0] H = some (T (wf r c), H') ∧ Ext H H' := by
 obtain ⟨b1, b2, b3, b4, b5, b6, b7⟩ := hb
 have ca := vZ5 hc
 obtain ⟨z1, ⟨o1, o2, o3, o4, o5, o6, o7⟩, z2⟩ := id z
 unfold bulk at z2
 simp only [letters, List.mem_cons, List.not_mem_nil, or_false] at hr
 rcases hr with rfl | rfl | rfl | rfl | rfl | rfl | rfl | rfl | rfl | rfl | rfl
 ·exact ⟨H, kZX H p 1 (n + 1) _ c.a _ o1 (vZ5 b1 0) (xZe H p) (ca 1), .refl _⟩
 ·exact ⟨H, kZX H p 2 (n + 3) _ c.b _ o2 (vZ5 b2 0) (xZf H p) (ca 2), .refl _⟩
 ·exact ⟨H, kZX H p 3 (n + 5) _ c.c _ o3 (vZ5 b3 0) (xZg H p) (ca 3), .refl _⟩
 ·exact ⟨H, kZX H p 4 (n + 7) _ c.n _ o4 (vZ5 b4 0) (xZh H p) (ca 4), .refl _⟩
 ·exact ⟨H, kZX H p 5 (n + 9) _ c.m _ o5 (vZ5 b5 0) (xZi H p) (ca 5), .refl _⟩
 ·exact ⟨H, kZ0 H p 6 (n + 11) _ c.s _ (by omega) (vZ5 b6 0) (xZj H p) (ca 6), .refl _⟩
 ·exact ⟨H, kZ0 H p 7 (n + 13) _ c.t _ (by omega) (vZ5 b7 0) (xZk H p) (ca 7), .refl _⟩
 ·exact ⟨H, xZb H p c z ca, .refl _⟩
 ·obtain ⟨r, H', h1, rfl, h2⟩ := xZc H p c z hc
  exact ⟨H', h1, h2⟩
 ·obtain ⟨r, H', h1, rfl, h2⟩ := kZ8 H p c z hc
  exact ⟨H', h1, h2⟩
 ·exact ⟨H, xZl H p c ca, .refl _⟩
theorem Ext.app {A H : Heap} (h : Ext A H) : ∃ X, H = A ++ X := by
 refine ⟨H.drop A.length, ?_⟩
 apply List.ext_getElem?
 intro i
 rw [List.getElem?_append]
 split
 ·rename_i hi; exact h.2 i hi
 ·rw [List.getElem?_drop]; congr 1; omega
theorem app_row {H : Heap} {id ep : Nat} {xs es : List (List V)} {e : List V} {q : V} (hr : H[id]? = some (.row 1 xs ep true)) (hq : elemsOf H q = some (e :: es)) (hp : plainR 1 (e :: es)) (hroom : xs.length + (e :: es).length ≤ roomB) :
  evApp H 1 1 (.sl id ep 0 xs.length) q = some (.sl id (ep + 1) 0 (xs.length + (e :: es).length), H.set id (.row 1 (xs ++ e :: es) (ep + 1) true)) := by
 simp only [evApp, hq, hr, zYaS hp, Nat.mul_one, hroom, and_self, if_true, qZ0, Nat.zero_add, qZX]
def LH (c : Cmd) (w f out : Bs) (ep pos : Nat) (E : Heap) : Heap := .cells (cC c) :: .cells [T w, T f] :: .row 1 (out.map cB) ep true :: (fO 3 ++ .iter ⟨f.toArray⟩ pos :: E)
theorem tail_take (l : Bs) (c : Cmd) {i : Nat} {r : UInt8} (h : l[i]? = some r) : tail (l.take (i + 1)) c = tail (l.take i) c ++ 32 :: wf r c := by
 rw [List.take_add_one, h]
 simp [tail]
theorem tail_pre (l : Bs) (c : Cmd) (i : Nat) : (tail (l.take i) c).length ≤ (tail l c).length := by
 have : tail l c = tail (l.take i) c ++ tail (l.drop i) c := by
  unfold tail
  rw [← List.flatMap_append, List.take_append_drop]
 rw [this, List.length_append]
 omega
theorem word_len (op : Nat) : (word op).length ≤ 20 := by
 by_cases h : op < 45
 ·exact (show ∀ op : Fin 45, (word op).length ≤ 20 by decide) ⟨op, h⟩
 ·rw [(jZN h).1]; decide
theorem bytes_cons {t : Bs} (h : t ≠ []) : ∃ e es, t.map cB = e :: es := by
 cases t with
 | nil => exact absurd rfl h
 | cons b t => exact ⟨_, _, rfl⟩
theorem wf_ne {r : UInt8} (hr : r ∈ letters) (c : Cmd) : wf r c ≠ [] := by
 simp only [letters, List.mem_cons, List.not_mem_nil, or_false] at hr
 rcases hr with rfl | rfl | rfl | rfl | rfl | rfl | rfl | rfl | rfl | rfl | rfl
 ·exact (xZ9 _).2
 ·exact (xZ9 _).2
 ·exact (xZ9 _).2
 ·exact (xZ9 _).2
 ·exact (xZ9 _).2
 ·exact (zYaq _).2
 ·exact (zYaq _).2
 ·simp [wf, quoteU]
 ·simp [wf]
 ·simp [wf]
 ·show yesB c.yes ≠ []; cases c.yes <;> decide
theorem kZ5 (c : Cmd) (z : SzL c) (H : Heap) : callW Φ zZW [.agg (cC c)] H = some (.tup [T (lineR c).1, .int .i64 (lineR c).2], H) := by
 have : ∃ hh, evBodyW (callW Φ) zZW.c [.agg (cC c)] [] = some (.tup [T (lineR c).1, .int .i64 (lineR c).2], hh) := by
  refine wZg (Nat.le_of_ble_eq_true rfl) (fun env he h0 => ?_)
  have g0 := h0 0 (by simp)
  change eget env 0 = .agg (cC c) at g0
  clear h0
  simp [zZW.c] at he
  have hcc : (V.agg (cC c)).cells = cC c := rfl
  have b0 : evBox [] (cC c) = some (.ptr 0 0, [.cells (cC c)]) := jZU [] _ (by simp [V.isCell])
  have hf := fun H => wZz c.op z.1 H
  have c0 : ∀ (H : Heap) off, cellsAt (.cells (cC c) :: H) (.ptr 0 off) = some ((cC c).drop off) := fun H off => rfl
  have c1 : ∀ (H : Heap) (o : Ob) off, cellsAt (o :: .cells [T (word c.op), T (flds c.op)] :: H) (.ptr 1 off) = some ([T (word c.op), T (flds c.op)].drop off) := fun H o off => rfl
  have s1 : evStoreV [.cells (cC c), .cells [.str ⟨#[]⟩, .str ⟨#[]⟩]] 2 (.ptr 1 0) (.agg [T (word c.op), T (flds c.op)]) = some (V.non, [.cells (cC c), .cells [T (word c.op), T (flds c.op)]]) := by
   simp [evStoreV, V.cells, V.isCell, evStore, setRange]
  have e0 : ∀ l : Bs, beqS ⟨l.toArray⟩ ⟨#[]⟩ = (l == []) := fun l => T_beq l []
  cases hk : known c.op
  ·have hw : word c.op = [] := by
    by_cases hw : word c.op = []
    ·exact hw
    ·rw [zYay.2 hw] at hk; cases hk
   rw [hw] at s1 c1 hf
   have e00 : beqS ⟨#[]⟩ ⟨#[]⟩ = true := rfl
   simp [zZW.c, zZW.r0, zZW.r1, zZW.r2, zZW.r3, zZW.r4, zZW.r5, zZW.r6, zZW.r14, g0, he, hcc, b0, hf, c0, c1, s1, lineR, hk, e00]
  ·have hwn := zYay.1 hk
   have hw2 : (word c.op == []) = false := by simpa using hwn
   have hsb : ∀ H : Heap, evConv H .strBytes (T (word c.op)) = some (.sl H.length 0 0 (word c.op).length, H ++ [.row 1 ((word c.op).map cB) 0 true]) := fun H => by
    have := word_len c.op
    have h2 : (word c.op).length ≤ roomB := by unfold roomB; omega
    simp only [evConv, vZm, Nat.mul_one, h2, if_true, T_bytes, qZ5]
   have hfl : callW Φ qZG [] [.cells (cC c), .cells [T (word c.op), T (flds c.op)], .row 1 ((word c.op).map cB) 0 true] = some (.map 3, [.cells (cC c), .cells [T (word c.op), T (flds c.op)], .row 1 ((word c.op).map cB) 0 true] ++ fO 3) := vZ4 (fields3 _ _ _)
   have hrg : evRngs ([.cells (cC c), .cells [T (word c.op), T (flds c.op)], .row 1 ((word c.op).map cB) 0 true] ++ fO 3) (T (flds c.op)) = some (.ptr 18 0, LH c (word c.op) (flds c.op) (word c.op) 0 0 []) := by
    simp only [evRngs, qZ5]
    rfl
   have c1' : cellsAt ([.cells (cC c), .cells [T (word c.op), T (flds c.op)], .row 1 ((word c.op).map cB) 0 true] ++ fO 3) (.ptr 1 1) = some [T (flds c.op)] := rfl
   have sl1 := hsb [.cells (cC c), .cells [T (word c.op), T (flds c.op)]]
   simp only [List.length_cons, List.length_nil, List.cons_append, List.nil_append] at sl1
   simp [zZW.c, zZW.r0, zZW.r1, zZW.r2, zZW.r4, zZW.r5, zZW.r6, g0, he, hcc, b0, hf, c0, c1, s1, e0, hw2, sl1]
   simp only [List.cons_append, List.nil_append] at hfl hrg c1'
   simp [hfl, hrg, c1', he]
   obtain ⟨I, hI⟩ : ∃ I : Nat → St → Prop, I = fun m st => ∃ (pos ep : Nat) (E : Heap), m = (flds c.op).length - pos ∧ pos ≤ (flds c.op).length ∧ (eget st.env 1 = .ptr 0 0 ∧ eget st.env 5 = .sl 2 ep 0 (word c.op ++ tail ((flds c.op).take pos) c).length ∧ eget st.env 6 = .map 3 ∧ eget st.env 21 = .ptr 18 0 ∧ st.env.length = 40) ∧ st.marks = [] ∧
    st.heap = LH c (word c.op) (flds c.op) (word c.op ++ tail ((flds c.op).take pos) c) ep pos E ∧ (word c.op ++ tail ((flds c.op).take pos) c).length ≤ maxS := ⟨_, rfl⟩
   refine kLoop I (flds c.op).length (by
    rw [hI]
    exact ⟨0, 0, [], rfl, by omega, ⟨by simp [he], by simp [he, tail], by simp [he], by simp [he], by simpa using he⟩, rfl, by simp [tail], by have := word_len c.op; simp [tail, maxS]; omega⟩) ?_
   rintro m ⟨env, mk, Hh⟩ hst
   rw [hI] at hst
   obtain ⟨pos, ep, E, rfl, hp, ⟨k1, k5, k6, k21, hl⟩, hm, hH, hle⟩ := hst
   simp only at k1 k5 k6 k21 hl hm hH
   obtain rfl := hm
   obtain ⟨out, hout⟩ : ∃ out, out = word c.op ++ tail ((flds c.op).take pos) c := ⟨_, rfl⟩
   rw [← hout] at k5 hH hle
   by_cases hp2 : pos < (flds c.op).length
   ·obtain ⟨r, hr⟩ : ∃ r, (flds c.op)[pos]? = some r := ⟨_, List.getElem?_eq_getElem hp2⟩
    have hmem := List.mem_of_getElem? hr
    have hlet := (jZ6 c.op).2 r hmem
    have hsm := wZR hmem
    have h18 : Hh[18]? = some (.iter ⟨(flds c.op).toArray⟩ pos) := by rw [hH]; rfl
    obtain ⟨H1, hH1⟩ : ∃ H1, H1 = LH c (word c.op) (flds c.op) out ep (pos + 1) E := ⟨_, rfl⟩
    have hn : evNxt Hh (.ptr 18 0) = some (.tup [.bool true, .int .i64 pos, .int .i32 r.toNat], H1) := by
     rw [nxt_byte h18 hr hsm, hH, hH1]
     rfl
    have hbs := bs1 H1 (.int .u8 0) (.int .u8 32) ⟨rfl, rfl⟩
    obtain ⟨H2, hH2⟩ : ∃ H2, H2 = LH c (word c.op) (flds c.op) (out ++ [32]) (ep + 1) (pos + 1) (E ++ [.row 1 [cB 32] 0 true]) := ⟨_, rfl⟩
    have hsz : out.length ≤ 1048576 := hle
    have ha1 : evApp (H1 ++ [.row 1 [[.int .u8 32]] 0 true]) 1 1 (.sl 2 ep 0 out.length) (.sl H1.length 0 0 1) = some (.sl 2 (ep + 1) 0 (out.length + 1), H2) := by
     have := app_row (H := H1 ++ [.row 1 [[.int .u8 32]] 0 true]) (id := 2) (ep := ep) (xs := out.map cB) (e := cB 32) (es := []) (q := .sl H1.length 0 0 1) (by rw [hH1]; rfl) (by simp [elemsOf, cB]) (plainB [32]) (by simp [roomB]; omega)
     rw [List.length_map] at this
     simp only [List.length_cons, List.length_nil] at this
     rw [this, hH2, hH1]
     simp [LH]
     rfl
    have h3 : H2[3]? = some (.map (fM 3) 11) := by rw [hH2]; rfl
    have hlk := zYaR (n := 3) hlet h3
    obtain ⟨H3, hcall, hx⟩ := wr_call (n := 3) (p := 0) hlet z (H := H2) (by rw [hH2]; rfl) ⟨by rw [hH2]; rfl, by rw [hH2]; rfl, by rw [hH2]; rfl, by rw [hH2]; rfl, by rw [hH2]; rfl, by rw [hH2]; rfl, by rw [hH2]; rfl⟩
    obtain ⟨X, hX⟩ := hx.app
    obtain ⟨H4, hH4⟩ : ∃ H4, H4 = LH c (word c.op) (flds c.op) (out ++ 32 :: wf r c) (ep + 2) (pos + 1) (E ++ [.row 1 [cB 32] 0 true] ++ X) := ⟨_, rfl⟩
    have hwl := wf_len z r
    obtain ⟨e, es, hes⟩ := bytes_cons (wf_ne hlet c)
    have hesl : (e :: es).length = (wf r c).length := by rw [← hes, List.length_map]
    have ha2 : evApp H3 1 1 (.sl 2 (ep + 1) 0 (out.length + 1)) (T (wf r c)) = some (.sl 2 (ep + 2) 0 (out ++ 32 :: wf r c).length, H4) := by
     have := app_row (H := H3) (id := 2) (ep := ep + 1) (xs := (out ++ [32]).map cB) (e := e) (es := es) (q := T (wf r c)) (by rw [hX, hH2]; rfl) (by simp only [elemsOf, T_bytes, hes]) (by rw [← hes]; exact plainB _) (by rw [hesl, List.length_map]; simp [roomB]; omega)
     rw [hesl] at this
     simp only [List.length_map, List.length_append, List.length_cons, List.length_nil] at this
     rw [this, hX, hH2, hH4, ← hes]
     simp [LH]
     omega
    obtain ⟨N, hN⟩ : ∃ N, N = (out ++ 32 :: wf r c).length := ⟨_, rfl⟩
    rw [← hN] at ha2
    have htk := tail_take (flds c.op) c hr
    have hnew : word c.op ++ tail ((flds c.op).take (pos + 1)) c = out ++ 32 :: wf r c := by rw [htk, hout]; simp
    by_cases hbig : 1048576 < N
    ·have hll : (lineB c).length > maxS := by
      have h1 := tail_pre (flds c.op) c (pos + 1)
      have h2 := congrArg List.length hnew
      unfold lineB maxS
      rw [← hN] at h2
      rw [List.length_append] at h2 ⊢
      omega
     have hres : lineR c = ([], 4) := by simp only [lineR, hk, if_true]; rw [if_pos hll]
     have hbig2 : (1048576 : Int) < (N : Nat) := by omega
     simp only [zZW.b13]
     simp [zZW.r7, zZW.r8, zZW.r9, zZW.r10, zZW.r11, zZW.r12, k1, k5, k6, k21, hl, hn, evExt, hbs, ha1, hlk, evField, hcall, ha2, evLen, lenV, qZ0, hbig, hbig2, hres]
    ·have hbig2 : ¬ (1048576 : Int) < (N : Nat) := by omega
     simp only [zZW.b13]
     simp [zZW.r7, zZW.r8, zZW.r9, zZW.r10, zZW.r11, k1, k5, k6, k21, hl, hn, evExt, hbs, ha1, hlk, evField, hcall, ha2, evLen, lenV, qZ0, hbig, hbig2]
     refine ⟨(flds c.op).length - (pos + 1), by omega, ?_⟩
     rw [hI]
     refine ⟨pos + 1, ep + 2, E ++ [.row 1 [cB 32] 0 true] ++ X, rfl, by omega, ⟨by simp [k1], ?_, by simp [k6], by simp [k21], by simp [hl]⟩, rfl, ?_, ?_⟩
     ·rw [hnew, ← hN]; simp [hl]
     ·rw [hnew]; exact hH4
     ·rw [hnew, ← hN]; unfold maxS; omega
   ·have hpe : pos = (flds c.op).length := by omega
    have hn : evNxt Hh (.ptr 18 0) = some (.tup [.bool false], Hh) := nxt_end (l := flds c.op) (by rw [hH, hpe]; rfl)
    have hlb : out = lineB c := by rw [hout, hpe, List.take_length]; rfl
    have hres : lineR c = (lineB c, 0) := by simp only [lineR, hk, if_true]; rw [if_neg (by rw [← hlb]; omega)]
    have hcv := xZq (H := Hh) (v := .sl 2 ep 0 out.length) (o := some 2) (l := out) (.inr ⟨2, ep, rfl, by rw [List.length_map], by rw [hH]; rfl, plainB _⟩)
    simp only [zZW.b13]
    rw [hlb] at hcv k5
    simp [zZW.r7, zZW.r14, k1, k5, k6, k21, hl, hn, evExt, hcv, hres]
 obtain ⟨h', hb⟩ := this
 exact qZ7 (h := H) zZW.Φ rfl (args := [.agg (cC c)]) rfl hb rfl
open Go Go.Ev
theorem SzL.szp {c : Cmd} (z : SzL c) : SzP c := by
 obtain ⟨h1, _, h2⟩ := z
 have := xZr c.names
 unfold bulk at h2
 refine ⟨h1, ?_, ?_, ?_⟩ <;> (unfold roomB; omega)
theorem SzL.plain {c : Cmd} (z : SzL c) : SzL (plain c) := by
 obtain ⟨h1, ⟨o1, o2, o3, o4, o5, o6, o7⟩, h2⟩ := z
 unfold bulk at h2
 rw [vZ0]
 refine ⟨h1, ⟨?_, ?_, ?_, ?_, ?_, ?_, ?_⟩, ?_⟩
 ·simp only [keep]; split; exact o1; exact ⟨by omega, by omega⟩
 ·simp only [keep]; split; exact o2; exact ⟨by omega, by omega⟩
 ·simp only [keep]; split; exact o3; exact ⟨by omega, by omega⟩
 ·simp only [keep]; split; exact o4; exact ⟨by omega, by omega⟩
 ·simp only [keep]; split; exact o5; exact ⟨by omega, by omega⟩
 ·simp only [keep]; split; exact o6; intro u hu; cases hu
 ·simp only [keep]; split; exact o7; intro u hu; cases hu
 ·have e1 : (if 83 ∈ flds c.op then c.s else []).length ≤ c.s.length := by split <;> simp
  have e2 : (if 84 ∈ flds c.op then c.t else []).length ≤ c.t.length := by split <;> simp
  have e3 : (if 68 ∈ flds c.op then c.data else []).length ≤ c.data.length := by split <;> simp
  have e4 : (if 76 ∈ flds c.op then c.list else []).length ≤ c.list.length := by split <;> simp
  have e5 : ((if 75 ∈ flds c.op then c.names else []).map fun x => x.length + 1).sum ≤ (c.names.map fun x => x.length + 1).sum := by split <;> simp
  unfold bulk
  simp only [keep]
  omega
theorem kZ6 (c : Cmd) (z : SzL c) (H : Heap) : callW Φ zZF [.agg (cC c)] H = some (.bool true, H) := by
 have : ∃ hh, evBodyW (callW Φ) zZF.c [.agg (cC c)] [] = some (.bool true, hh) := by
  have hp1 := jZm c z.szp
  have hp2 := jZm (plain c) z.szp.plain
  rw [zYaH] at hp2
  have hl1 := kZ5 c z
  have hl2 := kZ5 (plain c) z.plain
  rw [lineR_plain] at hl2
  have hs := kZo (plain c) (plain c) z.szp.plain.szc z.szp.plain.szc
  have hb := zYao
  have hcc : ∀ c, (V.agg (cC c)).cells = cC c := fun c => rfl
  have b0 : evBox [] (cC c) = some (.ptr 0 0, [.cells (cC c)]) := jZU [] _ (by simp [V.isCell])
  have c0 : ∀ H off, cellsAt (.cells (cC c) :: H) (.ptr 0 off) = some ((cC c).drop off) := fun H off => rfl
  have c1 : ∀ o off, cellsAt [o, .cells (cC (plain c))] (.ptr 1 off) = some ((cC (plain c)).drop off) := fun o off => rfl
  have ok : ∀ c H, okCells H (some 12) (some (cC c)) = some (.agg (cC c), H) := fun c H => rfl
  have s1 : evStoreV [.cells (cC c), .cells z12] 12 (.ptr 1 0) (.agg (cC (plain c))) = some (V.non, [.cells (cC c), .cells (cC (plain c))]) := by
   have hall : (cC (plain c)).all V.isCell = true := rfl
   unfold evStoreV
   rw [hcc, hall]
   simp [evStore, setRange]
  have key : ∀ env : List V, env.length = 43 → eget env 1 = .ptr 0 0 → eget env 3 = .ptr 1 0 → eget env 4 = T (lineR c).1 → eget env 5 = .int .i64 (lineR c).2 → eget env 6 = T (lineR c).1 → eget env 7 = .int .i64 (lineR c).2 →
    WK (callW Φ) none (FinV [.tmp 2] (.bool true)) [It.c (.draw zZF.r6 [[], [0], [], [1, 2, 1], [3, 3], [4], [5, 4], [4], [7, 4], [6, 8, 4], [4, 9], [10, 4], [11], [11], [12, 13, 11], [11, 14], [15, 11], [16], [16], [17, 18, 16], [16, 19], [20, 16, 0, 1, 2, 3, 4, 5, 6, 7, 8, 9, 10, 11, 12, 13, 14, 15, 16, 17, 18, 19, 20]] [4, 5, 7, 9, 10, 11, 12, 13, 14, 15, 16, 17, 18, 19, 20, 21]), It.c .ret] { env := env, marks := [], heap := [.cells (cC c), .cells (cC (plain c))] } := by
   intro env he k1 k3 k4 k5 k6 k7
   refine kDrawW zZF.r6.ord ?_
   simp (config := { maxSteps := 5000000 }) [zZF.r6, List.filterMap_cons, k1, k3, k4, k5, k6, k7, he, hp2, hs, c0, c1, ok, evPick, T_beq, jZM]
   repeat' apply And.intro
   all_goals
    simp only [xZ7, xZ2, List.cons_append, List.nil_append]
    exact xZ6 _ rfl rfl rfl rfl
  refine wZg (Nat.le_of_ble_eq_true rfl) (fun env he h0 => ?_)
  have g0 := h0 0 (by simp)
  change eget env 0 = .agg (cC c) at g0
  clear h0
  simp [zZF.c] at he
  simp [zZF.c, zZF.r0, zZF.r1, zZF.r3, zZF.r4, zZF.r5, g0, he, hcc, b0, hb, c0, c1, ok, hp1, hl1, hl2, s1, evExt, -FinV]
  exact key _ (by simp [he]) (by simp [he]) (by simp [he]) (by simp [he]) (by simp [he]) (by simp [he]) (by simp [he])
 obtain ⟨h', hb⟩ := this
 exact qZ7 (h := H) zZF.Φ rfl (args := [.agg (cC c)]) rfl hb rfl
end Go.Proofs.Sc
