/- Maps that are written. Every operation that is no call, together. No conditions. -/
import Derived.Laws.RangeString
import Derived.Test.YtaeklgflchhmfaaGreatDoorEvO
set_option maxHeartbeats 16000000
set_option maxRecDepth 100000
set_option linter.unusedVariables false
set_option linter.unusedSimpArgs false
set_option linter.unusedSectionVars false
namespace Go.Ev
open Go.RowKit
section
variable {P : Program} {G : Glob} {B : Base G} {S : Cells} {w : World} {κ : Kap} {h : Heap}
theorem vZR {b : Nat} {es : Array MapEntry} {clock : Nat} (hb : w.heap[b]? = some (.map es clock)) (o : Obj) : (setObj b o).run P w = .ok () (World.withBlock w b o) := by
 simp [setObj, Sem.run, hb, World.withBlock]
theorem cell?_map {b : Nat} {es : Array MapEntry} {clock : Nat} (hb : w.heap[b]? = some (.map es clock)) (o : Nat) : w.cell? ⟨b, o, none⟩ = none := by
 simp [World.cell?, hb]
theorem wZv (inv : Inv P B S w κ h) {id b : Nat} {es' : Array MapEntry} {clock clock' : Nat} (h1 : κ id = some (.blk b)) (h2 : w.heap[b]? = some (.map es' clock))
  {fs : List (V × V × Nat)} {fs' : Array MapEntry} (hm : ME S w κ fs fs'.toList) :
  Inv P B S (World.withBlock w b (.map fs' clock')) (upd κ id (.blk b)) (h.set id (.map fs clock')) ∧ Stp B S w κ S (World.withBlock w b (.map fs' clock')) (upd κ id (.blk b)) := by
 have hb := (Array.getElem?_eq_some_iff.1 h2).1
 exact Inv.write inv h1 (.map fs' clock') (.blk b) (.refl _) rfl (.map fs clock') (fun o _ => by
  show (World.withBlock w b _).cell? ⟨b, o, none⟩ = w.cell? ⟨b, o, none⟩
  rw [cell?_map h2, cell?_map (qZH w b _ hb)]) (fun sle kle => ⟨b, fs', qZo _ _ _, qZH _ _ _ hb, ME.mono sle kle _ _ hm⟩)
theorem wZH {x : V} {u v : Value} (hx : x.scalar = true) (hu : RV S w κ x u) (hv : RV S w κ x v) (n : Nat) : Instr.sameBits n u v = true := by
 cases x <;> simp [V.scalar] at hx <;> simp only [RV] at hu hv <;> subst hu <;> subst hv <;> simp [Instr.sameBits, beq_toListBytes]
theorem xZQ (n : Nat) : ∀ {xs : List V} {us vs : List Value}, xs.all V.scalar = true → RL S w κ xs us → RL S w κ xs vs → (us.zip vs).all (fun p => Instr.sameBits n p.1 p.2) = true
 | [], [], [], _, _, _ => rfl
 | [], _ :: _, _, _, h, _ => by simp [RL] at h
 | [], _, _ :: _, _, _, h => by simp [RL] at h
 | _ :: _, [], _, _, h, _ => by simp [RL] at h
 | _ :: _, _, [], _, _, h => by simp [RL] at h
 | x :: xs, u :: us, v :: vs, hx, hu, hv => by
  simp only [List.all_cons, Bool.and_eq_true] at hx
  simp only [RL] at hu hv
  simp only [List.zip_cons_cons, List.all_cons, Bool.and_eq_true]
  exact ⟨wZH hx.1 hu.1 hv.1 n, xZQ n hx.2 hu.2 hv.2⟩
theorem key_bits {x : V} {u v : Value} (hx : x.cells.all V.scalar = true) (hu : RV S w κ x u) (hv : RV S w κ x v) : Instr.sameBits 10000 u v = true := by
 cases x with
 | agg cs =>
  simp only [RV] at hu hv
  obtain ⟨a, rfl, hu⟩ := hu
  obtain ⟨c, rfl, hv⟩ := hv
  have h1 := qZS hu
  have h2 := qZS hv
  simp only [Array.length_toList] at h1 h2
  have h3 := xZQ 9999 (S := S) (w := w) (κ := κ) (by simpa [V.cells] using hx) hu hv
  have h4 : a.size = c.size := by omega
  simp only [Instr.sameBits, h4, beq_self_eq_true, Bool.true_and]
  exact h3
 | bool b => exact wZH rfl hu hv _
 | int k n => exact wZH rfl hu hv _
 | str s => exact wZH rfl hu hv _
 | _ => simp [V.cells, V.scalar] at hx
theorem stays_run {old new : Value} (hs : Instr.sameBits 10000 old new = true) (w' : World) : (Instr.keyThatStays old new).run P w' = .ok new w' := by
 simp [Instr.keyThatStays, hs]
theorem kZo {k : V} {es : List (V × V × Nat)} {i : Nat} (hh : sameKey k es i = true) : ∃ e, es[i]? = some e ∧ e.1 = k ∧ k.cells.all V.scalar = true := by
 unfold sameKey at hh
 split at hh
 ·rename_i e he
  simp only [Bool.and_eq_true] at hh
  exact ⟨e, he, V.beq_eq _ _ hh.1, hh.2⟩
 ·cases hh
theorem xZd (inv : Inv P B S w κ h) {t kt e : TypeId} {ks : Eqd} (ht : P.underlying t = some (.map kt e)) (hk : eqD P 20 kt = some ks)
  {m k x z : V} {mv kv xv : Value} {h' : Heap} (hm : RV S w κ m mv) (hkv : RV S w κ k kv) (hx : RV S w κ x xv) (hh : evMapup h ks m k x = some (z, h')) :
  z = V.non ∧ ∃ w' S' κ', (Instr.mapUpdate t mv kv xv).run P w = .ok () w' ∧ Inv P B S' w' κ' h' ∧ Stp B S w κ S' w' κ' := by
 unfold evMapup at hh
 obtain ⟨hok, h1⟩ := zZN hh
 split at h1
 ·rename_i id
  split at h1
  ·rename_i es clock hi
   obtain ⟨b, es', rfl, g1, g2, g3⟩ := kZa inv hi hm
   split at h1
   ·rename_i i v hf
    obtain ⟨hsk, h2⟩ := zZN h1
    simp only [qZW, Option.some.injEq, Prod.mk.injEq] at h2
    obtain ⟨rfl, rfl⟩ := h2
    obtain ⟨r', k1, k2⟩ := vZq hk hkv g3 hf
    cases r' with
    | none => exact k1.elim
    | some p =>
     obtain ⟨j, u⟩ := p
     obtain ⟨rfl, hv⟩ := k1
     obtain ⟨e0, he0, rfl, hsc⟩ := kZo hsk
     obtain ⟨e0', he0', q1, q2, q3⟩ := ME_get g3 he0
     have hb := key_bits hsc q1 hkv
     have hget : es'[i]? = some e0' := by simpa using he0'
     obtain ⟨g4, g5⟩ := wZv inv (clock' := clock) g1 g2 (fs := es.modify i fun e => (e0.1, x, e.2.2)) (fs' := es'.modify i fun e => { e with key := kv, val := xv }) (by
      rw [Array.toList_modify]
      exact jZq _ _ i g3 (fun a a' ha ha' => by
       rw [he0] at ha; cases ha
       rw [he0'] at ha'; cases ha'
       exact ⟨hkv, hx, q3⟩))
     refine ⟨rfl, _, _, _, ?_, g4, g5⟩
     simp only [Instr.mapUpdate, Sem.run_bind, run_underlying ht, Result.andThen_ok, vZx g2, vZJ hk hkv hok, k2, hget, Option.map_some, Option.getD_some, stays_run hb, vZR g2]
   ·rename_i hf
    simp only [qZW, Option.some.injEq, Prod.mk.injEq] at h1
    obtain ⟨rfl, rfl⟩ := h1
    obtain ⟨r', k1, k2⟩ := vZq hk hkv g3 hf
    cases r' with
    | some p => exact k1.elim
    | none =>
     obtain ⟨g4, g5⟩ := wZv inv (clock' := clock + 1) g1 g2 (fs := es ++ [(k, x, clock)]) (fs' := es'.push { key := kv, val := xv, born := clock }) (by
      rw [Array.toList_push]
      exact kZR g3 ⟨hkv, hx, rfl, trivial⟩)
     refine ⟨rfl, _, _, _, ?_, g4, g5⟩
     simp only [Instr.mapUpdate, Sem.run_bind, run_underlying ht, Result.andThen_ok, vZx g2, vZJ hk hkv hok, k2, vZR g2]
   ·cases h1
  ·cases h1
 ·cases h1
theorem mapent_sound (inv : Inv P B S w κ h) {t kt e : TypeId} {ks : Eqd} {z0 : V} (ht : P.underlying t = some (.map kt e)) (hk : eqD P 20 kt = some ks) (hz : zeroT P e = some z0)
  {m k z : V} {mv kv : Value} {h' : Heap} (hm : RV S w κ m mv) (hkv : RV S w κ k kv) (hh : evMapent h ks z0 m k = some (z, h')) :
  ∃ r w' S' κ', (Instr.mapEntry t mv kv).run P w = .ok r w' ∧ Inv P B S' w' κ' h' ∧ Stp B S w κ S' w' κ' ∧ RV S' w' κ' z r := by
 obtain ⟨zv, hzv, hzr⟩ := wZy hz
 have hzs := vZ5 (S := S) (w := w) (κ := κ) hzv
 unfold evMapent at hh
 obtain ⟨hok, h1⟩ := zZN hh
 split at h1
 ·rename_i id
  split at h1
  ·rename_i es clock hi
   obtain ⟨b, es', rfl, g1, g2, g3⟩ := kZa inv hi hm
   split at h1
   ·rename_i i v hf
    obtain ⟨hsk, h2⟩ := zZN h1
    simp only [qZ5, qZW, Option.some.injEq, Prod.mk.injEq] at h2
    obtain ⟨rfl, rfl⟩ := h2
    obtain ⟨r', k1, k2⟩ := vZq hk hkv g3 hf
    cases r' with
    | none => exact k1.elim
    | some p =>
     obtain ⟨j, u⟩ := p
     obtain ⟨rfl, hv⟩ := k1
     obtain ⟨e0, he0, rfl, hsc⟩ := kZo hsk
     obtain ⟨e0', he0', q1, q2, q3⟩ := ME_get g3 he0
     have hb := key_bits hsc q1 hkv
     have hget : es'[i]? = some e0' := by simpa using he0'
     obtain ⟨g4, g5⟩ := wZv inv (clock' := clock) g1 g2 (fs := es.modify i fun e => (e0.1, e.2)) (fs' := es'.modify i fun e => { e with key := kv }) (by
      rw [Array.toList_modify]
      exact jZq _ _ i g3 (fun a a' ha ha' => by
       rw [he0] at ha; cases ha
       rw [he0'] at ha'; cases ha'
       exact ⟨hkv, q2, q3⟩))
     refine ⟨.tuple #[u, goInt e0'.born], _, _, _, ?_, g4, g5, ?_⟩
     ·simp only [Instr.mapEntry, Sem.run_bind, run_underlying ht, Result.andThen_ok, vZx g2, vZJ hk hkv hok, k2, hget, Option.map_some, Option.getD_some, stays_run hb, vZR g2, Sem.run_pure]
     ·simp only [RV]
      refine ⟨_, rfl, ?_⟩
      simp only [RL, RV, he0, Option.map_some, Option.getD_some, and_true]
      exact ⟨RV.mono g5.sle g5.kle _ _ hv, by simp [goInt, q3]⟩
   ·rename_i hf
    simp only [qZ5, qZW, Option.some.injEq, Prod.mk.injEq] at h1
    obtain ⟨rfl, rfl⟩ := h1
    obtain ⟨r', k1, k2⟩ := vZq hk hkv g3 hf
    cases r' with
    | some p => exact k1.elim
    | none =>
     obtain ⟨g4, g5⟩ := wZv inv (clock' := clock + 1) g1 g2 (fs := es ++ [(k, z0, clock)]) (fs' := es'.push { key := kv, val := zv, born := clock }) (by
      rw [Array.toList_push]
      exact kZR g3 ⟨hkv, hzs, rfl, trivial⟩)
     refine ⟨.tuple #[zv, goInt clock], _, _, _, ?_, g4, g5, ?_⟩
     ·simp only [Instr.mapEntry, Sem.run_bind, run_underlying ht, Result.andThen_ok, vZx g2, vZJ hk hkv hok, k2, hzr, vZR g2, Sem.run_pure]
     ·simp only [RV]
      refine ⟨_, rfl, ?_⟩
      simp only [RL, RV, and_true]
      exact ⟨RV.mono g5.sle g5.kle _ _ hzs, by simp [goInt]⟩
   ·cases h1
  ·cases h1
 ·cases h1
theorem born_idx : ∀ {es : List (V × V × Nat)} {es' : List MapEntry}, ME S w κ es es' → ∀ (n : Int), es'.findIdx? (fun e => (e.born : Int) == n) = es.findIdx? (fun e => (e.2.2 : Int) == n)
 | [], [], _, n => rfl
 | [], _ :: _, h, _ => h.elim
 | _ :: _, [], h, _ => h.elim
 | x :: es, y :: es', h, n => by
  simp only [List.findIdx?_cons, h.2.2.1, born_idx h.2.2.2 n]
theorem entst_sound (inv : Inv P B S w κ h) {t : TypeId} {m s x z : V} {mv sv xv : Value} {h' : Heap} (hm : RV S w κ m mv) (hs : RV S w κ s sv) (hx : RV S w κ x xv) (hh : evEntst h m s x = some (z, h')) :
  z = V.non ∧ ∃ w' S' κ', (Instr.entryStore t mv sv xv).run P w = .ok () w' ∧ Inv P B S' w' κ' h' ∧ Stp B S w κ S' w' κ' := by
 unfold evEntst at hh
 split at hh
 ·rename_i id
  split at hh
  ·rename_i q n
   split at hh
   ·rename_i es clock hi
    obtain ⟨b, es', rfl, g1, g2, g3⟩ := kZa inv hi hm
    simp only [RV] at hs
    subst hs
    split at hh
    ·rename_i i hfi
     simp only [qZW, Option.some.injEq, Prod.mk.injEq] at hh
     obtain ⟨rfl, rfl⟩ := hh
     have hfi' : es'.findIdx? (fun e => (e.born : Int) == n) = some i := by
      have e1 : es'.findIdx? (fun e => (e.born : Int) == n) = es'.toList.findIdx? (fun e => (e.born : Int) == n) := by cases es'; simp
      rw [e1, born_idx g3 n, hfi]
     obtain ⟨g4, g5⟩ := wZv inv (clock' := clock) g1 g2 (fs := es.modify i fun e => (e.1, x, e.2.2)) (fs' := es'.modify i fun e => { e with val := xv }) (by
      rw [Array.toList_modify]
      exact jZq _ _ i g3 (fun a a' ha ha' => by
       obtain ⟨a'', ha'', q1, q2, q3⟩ := ME_get g3 ha
       rw [ha'] at ha''; cases ha''
       exact ⟨q1, hx, q3⟩))
     refine ⟨rfl, _, _, _, ?_, g4, g5⟩
     simp only [Instr.entryStore, Sem.run_bind, vZx g2, Result.andThen_ok, asInt, asIntOf, Sem.run_pure, hfi', vZR g2]
    ·cases hh
   ·cases hh
  ·cases hh
 ·cases hh
theorem del_sound (inv : Inv P B S w κ h) {t u T kt e : TypeId} {ks : Eqd} (ht : P.underlying t = some (.map kt e)) (hk : eqD P 20 kt = some ks)
  {m k z : V} {mv kv : Value} {h' : Heap} (hm : RV S w κ m mv) (hkv : RV S w κ k kv) (hh : evDel h ks m k = some (z, h')) :
  ∃ r w' S' κ', (Builtin.delete_ #[t, u] T #[mv, kv]).run P w = .ok r w' ∧ Inv P B S' w' κ' h' ∧ Stp B S w κ S' w' κ' ∧ RV S' w' κ' z r := by
 unfold evDel at hh
 obtain ⟨hok, h1⟩ := zZN hh
 split at h1
 ·rename_i id
  split at h1
  ·rename_i es clock hi
   obtain ⟨b, es', rfl, g1, g2, g3⟩ := kZa inv hi hm
   have hb := (Array.getElem?_eq_some_iff.1 g2).1
   split at h1
   ·rename_i i v hf
    simp only [qZW, Option.some.injEq, Prod.mk.injEq] at h1
    obtain ⟨rfl, rfl⟩ := h1
    obtain ⟨r', k1, k2⟩ := vZq hk hkv g3 hf
    cases r' with
    | none => exact k1.elim
    | some p =>
     obtain ⟨j, u⟩ := p
     obtain ⟨rfl, hv⟩ := k1
     obtain ⟨g4, g5⟩ := wZv inv (clock' := clock) g1 g2 (fs := es.eraseIdx i) (fs' := es'.eraseIdxIfInBounds i) (by
      have : (es'.eraseIdxIfInBounds i).toList = es'.toList.eraseIdx i := by simp
      rw [this]
      exact ME_erase i g3)
     refine ⟨.tuple #[], _, _, _, ?_, g4, g5, by simp [RV, RL]⟩
     simp only [Builtin.delete_, List.getElem?_toArray, List.getElem?_cons_zero, List.getElem?_cons_succ, Sem.run_bind, run_underlying ht, Result.andThen_ok, vZx g2, vZJ hk hkv hok, k2, vZR g2, Sem.run_pure]
   ·rename_i hf
    simp only [Option.some.injEq, Prod.mk.injEq] at h1
    obtain ⟨rfl, rfl⟩ := h1
    obtain ⟨r', k1, k2⟩ := vZq hk hkv g3 hf
    cases r' with
    | some p => exact k1.elim
    | none =>
     refine ⟨.tuple #[], w, S, κ, ?_, inv, .refl _ _ _ _, by simp [RV, RL]⟩
     simp only [Builtin.delete_, List.getElem?_toArray, List.getElem?_cons_zero, List.getElem?_cons_succ, Sem.run_bind, run_underlying ht, Result.andThen_ok, vZx g2, vZJ hk hkv hok, k2, vZR g2, Sem.run_pure]
     rw [vZS w b _ g2]
   ·cases h1
  ·cases h1
 ·cases h1
theorem rngs_sound (inv : Inv P B S w κ h) {t : TypeId} (ht : P.underlying t = some .string) (s : ByteArray) :
  ∃ r w' S' κ', (Instr.range t (.string s)).run P w = .ok r w' ∧ Inv P B S' w' κ' (h ++ [.iter s 0]) ∧ Stp B S w κ S' w' κ' ∧ RV S' w' κ' (.ptr h.length 0) r := by
 have := Inv.fresh inv h.length (Nat.le_refl _) (.stringIter s 0) (.blk w.heap.size) (fun k hk => by rw [kZc inv] at hk; cases hk) rfl (h ++ [.iter s 0])
  (fun i o hi ho => by
   rw [List.getElem?_append] at ho
   split at ho
   ·exact ho
   ·rename_i hge
    rw [List.getElem?_eq_none (by simp; omega)] at ho
    cases ho)
  (by simp) (by simp) (fun sle kle o ho => by
   simp at ho
   subst ho
   exact ⟨w.heap.size, qZo _ _ _, vZt _ _⟩)
 exact ⟨.pointer (some ⟨w.heap.size, 0, none⟩), _, _, _, by rw [run_range_string w t s ht]; rfl, this.1, this.2, by simp only [RV]; exact ⟨_, qZo _ _ _, rfl⟩⟩
theorem nxt_sound (inv : Inv P B S w κ h) {x z : V} {xv : Value} {h' : Heap} (T : TypeId) (hx : RV S w κ x xv) (hh : evNxt h x = some (z, h')) :
  ∃ r w' S' κ', (Instr.next xv true T).run P w = .ok r w' ∧ Inv P B S' w' κ' h' ∧ Stp B S w κ S' w' κ' ∧ RV S' w' κ' z r := by
 unfold evNxt at hh
 split at hh
 case h_2 => cases hh
 rename_i id
 split at hh
 case h_2 => cases hh
 rename_i s pos hi
 obtain ⟨b, h1, h2⟩ := inv.obs _ _ hi
 simp only [RV] at hx
 obtain ⟨b', k1, rfl⟩ := hx
 rw [h1] at k1; cases k1
 have hb := (Array.getElem?_eq_some_iff.1 h2).1
 have hg : (getObj b).run P w = .ok (.stringIter s pos) w := by simp [getObj, Sem.run, h2]
 split at hh
 ·rename_i hlt
  simp only [qZW, Option.some.injEq, Prod.mk.injEq] at hh
  obtain ⟨rfl, rfl⟩ := hh
  have hc : ∀ (w : World) (s : ByteArray) (p : Nat), w.heap[b]? = some (.stringIter s p) → ∀ o, w.cell? ⟨b, o, none⟩ = none := fun w s p hb o => by simp [World.cell?, hb]
  have hw := Inv.write inv h1 (.stringIter s (pos + (Utf8.decode s pos).2)) (.blk b) (.refl _) rfl (.iter s (pos + (Utf8.decode s pos).2)) (fun o _ => by
   show (World.withBlock w b _).cell? ⟨b, o, none⟩ = w.cell? ⟨b, o, none⟩
   rw [hc w _ _ h2, hc _ _ _ (qZH w b _ hb)]) (fun sle kle => ⟨b, qZo _ _ _, qZH _ _ _ hb⟩)
  refine ⟨.tuple #[.bool true, goInt pos, .int .i32 (Utf8.decode s pos).1], _, _, _, ?_, hw.1, hw.2, by simp [RV, RL, goInt]⟩
  have hs : ∀ o, (setObj b o).run P w = .ok () (World.withBlock w b o) := fun o => by simp [setObj, Sem.run, h2, World.withBlock]
  simp only [Instr.next, Sem.run_bind, hg, Result.andThen_ok, hlt, if_true, hs, Sem.run_pure]
  rfl
 ·rename_i hlt
  simp only [Option.some.injEq, Prod.mk.injEq] at hh
  obtain ⟨rfl, rfl⟩ := hh
  refine ⟨.tuple #[.bool false], w, S, κ, ?_, inv, .refl _ _ _ _, by simp [RV, RL]⟩
  simp only [Instr.next, Sem.run_bind, hg, Result.andThen_ok, hlt, if_false, Sem.run_pure]
theorem mkm_sound (inv : Inv P B S w κ h) (t : TypeId) :
  ∃ r w' S' κ', (Instr.makeMap t none).run P w = .ok r w' ∧ Inv P B S' w' κ' (h ++ [.map [] 0]) ∧ Stp B S w κ S' w' κ' ∧ RV S' w' κ' (.map h.length) r := by
 have := Inv.fresh inv h.length (Nat.le_refl _) (.map #[] 0) (.blk w.heap.size) (fun k hk => by rw [kZc inv] at hk; cases hk) rfl (h ++ [.map [] 0])
  (fun i o hi ho => by
   rw [List.getElem?_append] at ho
   split at ho
   ·exact ho
   ·rename_i hge
    rw [List.getElem?_eq_none (by simp; omega)] at ho
    cases ho)
  (by simp) (by simp) (fun sle kle o ho => by
   simp at ho
   subst ho
   exact ⟨w.heap.size, #[], qZo _ _ _, vZt _ _, trivial⟩)
 exact ⟨.map (some w.heap.size), _, _, _, by simp [Instr.makeMap], this.1, this.2, by simp only [RV]; exact ⟨_, qZo _ _ _, rfl⟩⟩
end
open Go.RowKit
section
variable {P : Program} {G : Glob} {B : Base G} {S : Cells} {w : World} {κ : Kap} {h : Heap}
theorem vZ7 {env : List V} {a : Act} (hr : RL S w κ env a.tmps.toList) : ∀ (l : List Operand) (l' : List Od), cOds l = some l' → RL S w κ (evs env l') (l.map a.eval)
 | [], l', hh => by simp [cOds] at hh; subst hh; simp [evs, RL]
 | o :: l, l', hh => by
  simp only [cOds, List.mapM_cons, Option.bind_eq_bind, Option.bind_eq_some_iff, Option.pure_def, Option.some.injEq] at hh
  obtain ⟨d, hd, r, hr', rfl⟩ := hh
  simp only [evs, List.map_cons, RL]
  exact ⟨zZ2 hr hd, vZ7 hr l r hr'⟩
theorem wZT {l : List Operand} {d : Od} {ds : List Od} (hh : cOds l = some (d :: ds)) : ∃ o r, l = o :: r ∧ cOd o = some d ∧ cOds r = some ds := by
 cases l with
 | nil => simp [cOds] at hh
 | cons o r =>
  simp only [cOds, List.mapM_cons, Option.bind_eq_bind, Option.bind_eq_some_iff, Option.pure_def, Option.some.injEq, List.cons.injEq] at hh
  obtain ⟨d', hd, r', hr', rfl, rfl⟩ := hh
  exact ⟨o, r, rfl, hd, hr'⟩
theorem kZK {l : List Operand} (hh : cOds l = some []) : l = [] := by
 cases l with
 | nil => rfl
 | cons o r =>
  simp only [cOds, List.mapM_cons, Option.bind_eq_bind, Option.bind_eq_some_iff, Option.pure_def, Option.some.injEq] at hh
  obtain ⟨d', hd, r', hr', hc⟩ := hh
  cases hc
theorem arr1 {α : Type} {a : Array α} {x : α} (hh : a.toList = [x]) : a = #[x] := by cases a; simp_all
theorem arr2 {α : Type} {a : Array α} {x y : α} (hh : a.toList = [x, y]) : a = #[x, y] := by cases a; simp_all
theorem Good.val (inv : Inv P B S w κ h) {x : V} {s : Sem Value} {h' : Heap} (e : h' = h) (hs : ∃ v, RV S w κ x v ∧ ∀ w', s.run P w' = .ok v w') :
  Good P B S w κ h' x (do pure (.value (← s))) := by
 subst e
 exact Good.same inv (Same.of hs)
theorem Good.val' (inv : Inv P B S w κ h) {x : V} {s : Sem Value} {h' : Heap} (e : h' = h) (hs : ∃ v, RV S w κ x v ∧ s.run P w = .ok v w) :
  Good P B S w κ h' x (do pure (.value (← s))) := by
 subst e
 exact Good.here inv hs
theorem Good.skip {s : Sem Unit} {h' : Heap} {x : V} (hx : x = V.non) (hs : ∃ w' S' κ', s.run P w = .ok () w' ∧ Inv P B S' w' κ' h' ∧ Stp B S w κ S' w' κ') :
  Good P B S w κ h' x (do s; pure .skip) := by
 subst hx
 obtain ⟨w', S', κ', a, b, c⟩ := hs
 exact ⟨undef, w', S', κ', .inr ⟨rfl, by simp [a]⟩, b, c, jZr⟩
theorem cB_len {ts : List TypeId} {args : List Od} {c : Cop} (hc : cBuiltin P .len ts args = some c) : ∃ t y, ts = [t] ∧ args = [y] ∧
    ((P.underlying t = some .string ∧ c = .len .s y) ∨ (∃ e, P.underlying t = some (.slice e) ∧ c = .len .l y) ∨ (∃ k e, P.underlying t = some (.map k e) ∧ c = .len .m y) ∨
     (∃ n e, P.underlying t = some (.array n e) ∧ c = .mov (.c (.int .i64 n))) ∨ (∃ p n e, P.underlying t = some (.pointer p) ∧ P.underlying p = some (.array n e) ∧ c = .mov (.c (.int .i64 n)))) := by
  rcases ts with _ | ⟨t, _ | ⟨t2, ts⟩⟩ <;> rcases args with _ | ⟨y, _ | ⟨y2, args⟩⟩ <;> simp only [cBuiltin, reduceCtorEq] at hc
  refine ⟨t, y, rfl, rfl, ?_⟩
  split at hc
  · rename_i ht; cases hc; exact .inl ⟨ht, rfl⟩
  · rename_i e ht; cases hc; exact .inr (.inl ⟨e, ht, rfl⟩)
  · rename_i k e ht; cases hc; exact .inr (.inr (.inl ⟨k, e, ht, rfl⟩))
  · rename_i n e ht; cases hc; exact .inr (.inr (.inr (.inl ⟨n, e, ht, rfl⟩)))
  · rename_i p ht
    split at hc
    · rename_i n e hp; cases hc; exact .inr (.inr (.inr (.inr ⟨p, n, e, ht, hp, rfl⟩)))
    · cases hc
  · cases hc
theorem cB_append {ts : List TypeId} {args : List Od} {c : Cop} (hc : cBuiltin P .append ts args = some c) : ∃ t u e d q s y, ts = [t, u] ∧ args = [s, y] ∧
  P.underlying t = some (.slice e) ∧ P.underlying u = some d ∧ (∀ k, d ≠ .int k) ∧ elemT P e = some q ∧ c = .app q.1 q.2.1 s y := by
 rcases ts with _ | ⟨t, _ | ⟨u, _ | ⟨t3, ts⟩⟩⟩ <;> rcases args with _ | ⟨y, _ | ⟨y2, _ | ⟨y3, args⟩⟩⟩ <;> simp only [cBuiltin, reduceCtorEq] at hc
 split at hc
 ·rename_i e e2 h1 h2
  simp only [Option.map_eq_some_iff] at hc
  obtain ⟨q, hq, rfl⟩ := hc
  exact ⟨t, u, e, _, q, y, y2, rfl, rfl, h1, h2, by simp, hq, rfl⟩
 ·rename_i e h1 h2
  simp only [Option.map_eq_some_iff] at hc
  obtain ⟨q, hq, rfl⟩ := hc
  exact ⟨t, u, e, _, q, y, y2, rfl, rfl, h1, h2, by simp, hq, rfl⟩
 ·cases hc
theorem cB_copy {ts : List TypeId} {args : List Od} {c : Cop} (hc : cBuiltin P .copy ts args = some c) : ∃ t u e q s y, ts = [t, u] ∧ args = [s, y] ∧
  P.underlying t = some (.slice e) ∧ elemT P e = some q ∧ c = .copy q.1 s y := by
 rcases ts with _ | ⟨t, _ | ⟨u, _ | ⟨t3, ts⟩⟩⟩ <;> rcases args with _ | ⟨y, _ | ⟨y2, _ | ⟨y3, args⟩⟩⟩ <;> simp only [cBuiltin, reduceCtorEq] at hc
 split at hc
 ·rename_i e e2 h1 h2
  simp only [Option.map_eq_some_iff] at hc
  obtain ⟨q, hq, rfl⟩ := hc
  exact ⟨t, u, e, q, y, y2, rfl, rfl, h1, hq, rfl⟩
 ·rename_i e h1 h2
  simp only [Option.map_eq_some_iff] at hc
  obtain ⟨q, hq, rfl⟩ := hc
  exact ⟨t, u, e, q, y, y2, rfl, rfl, h1, hq, rfl⟩
 ·cases hc
theorem cB_delete {ts : List TypeId} {args : List Od} {c : Cop} (hc : cBuiltin P .delete ts args = some c) : ∃ t u kt e ks s y, ts = [t, u] ∧ args = [s, y] ∧
  P.underlying t = some (.map kt e) ∧ eqD P 20 kt = some ks ∧ c = .del ks s y := by
 rcases ts with _ | ⟨t, _ | ⟨u, _ | ⟨t3, ts⟩⟩⟩ <;> rcases args with _ | ⟨y, _ | ⟨y2, _ | ⟨y3, args⟩⟩⟩ <;> simp only [cBuiltin, reduceCtorEq] at hc
 split at hc
 ·rename_i kt e h1
  simp only [Option.map_eq_some_iff] at hc
  obtain ⟨q, hq, rfl⟩ := hc
  exact ⟨t, u, kt, e, q, y, y2, rfl, rfl, h1, hq, rfl⟩
 ·cases hc
theorem cB_clear {ts : List TypeId} {args : List Od} {c : Cop} (hc : cBuiltin P .clear ts args = some c) : ∃ t e q y, ts = [t] ∧ args = [y] ∧
  P.underlying t = some (.slice e) ∧ elemT P e = some q ∧ c = .clr q.1 q.2.2 y := by
 rcases ts with _ | ⟨t, _ | ⟨t2, ts⟩⟩ <;> rcases args with _ | ⟨y, _ | ⟨y2, args⟩⟩ <;> simp only [cBuiltin, reduceCtorEq] at hc
 split at hc
 ·rename_i e h1
  simp only [Option.map_eq_some_iff] at hc
  obtain ⟨q, hq, rfl⟩ := hc
  exact ⟨t, e, q, y, rfl, rfl, h1, hq, rfl⟩
 ·cases hc
theorem builtin_sound (inv : Inv P B S w κ h) {env : List V} {a : Act} (hr : RL S w κ env a.tmps.toList) {o : Oper} {cl : Call} {b : Builtin} (ho : o.op = .call cl) (hb : cl.callee = .builtin b)
  {args : List Od} (ha : cOds cl.args.toList = some args) {c : Cop} (hc : cBuiltin P b cl.argTypes.toList args = some c) {x : V} {h' : Heap} (he : evOp env h c = some (x, h')) :
  Good P B S w κ h' x (execOp a.eval o) := by
 have hex : ∀ (s : Sem Next), (∀ consts, builtin b cl.argTypes o.type consts (cl.args.map a.eval) = s) → Good P B S w κ h' x s → Good P B S w κ h' x (execOp a.eval o) := by
  intro s hs hg
  have : execOp a.eval o = s := by
   simp only [execOp, ho, resolve, hb, pure_bind, invoke]
   exact hs _
  rw [this]
  exact hg
 have two : ∀ {s y : Od} {t u : TypeId}, cl.argTypes.toList = [t, u] → args = [s, y] → ∃ o1 o2, cl.args.map a.eval = #[a.eval o1, a.eval o2] ∧ cl.argTypes = #[t, u] ∧
   RV S w κ (s.ev env) (a.eval o1) ∧ RV S w κ (y.ev env) (a.eval o2) := by
  rintro s y t u ht rfl
  obtain ⟨o1, r, hl, h1, h2⟩ := wZT ha
  obtain ⟨o2, r2, hl2, h3, h4⟩ := wZT h2
  have := kZK h4
  subst this
  subst hl2
  exact ⟨o1, o2, by rw [arr2 hl]; simp, arr2 ht, zZ2 hr h1, zZ2 hr h3⟩
 cases b
 case len =>
  obtain ⟨t, y, hts, rfl, hlen⟩ := cB_len hc
  clear hc
  obtain ⟨o1, r, hl, h1, h2⟩ := wZT ha
  have := kZK h2
  subst this
  have hy := zZ2 hr h1
  refine hex (do pure (.value (← Builtin.len_ #[t] o.type #[a.eval o1]))) (fun consts => by rw [arr1 hts, arr1 hl]; simp [builtin]) ?_
  rcases hlen with ⟨ht, rfl⟩ | ⟨e, ht, rfl⟩ | ⟨k, e, ht, rfl⟩ | ⟨n, e, ht, rfl⟩ | ⟨p, n, e, ht, hp, rfl⟩
  ·obtain ⟨n, g1, rfl, rfl⟩ := jZ3 he
   exact Good.val' inv rfl ⟨_, rfl, len_s ht hy g1⟩
  ·obtain ⟨n, g1, rfl, rfl⟩ := jZ3 he
   exact Good.val' inv rfl ⟨_, rfl, len_l ht hy g1⟩
  ·obtain ⟨n, g1, rfl, rfl⟩ := jZ3 he
   exact Good.val' inv rfl ⟨_, rfl, len_m inv ht hy g1⟩
  ·simp only [evOp, Od.ev, Option.some.injEq, Prod.mk.injEq] at he
   obtain ⟨rfl, rfl⟩ := he
   exact Good.val' inv rfl ⟨_, rfl, by simp [Builtin.len_, run_underlying ht, goInt]⟩
  ·simp only [evOp, Od.ev, Option.some.injEq, Prod.mk.injEq] at he
   obtain ⟨rfl, rfl⟩ := he
   exact Good.val' inv rfl ⟨_, rfl, by simp [Builtin.len_, run_underlying ht, run_underlying hp, goInt]⟩
 case max =>
  have hrl := vZ7 hr _ _ ha
  have : c = .mx args := by
   unfold cBuiltin at hc; simpa using hc.symm
  subst this
  obtain ⟨e, hs⟩ := mx_sound (P := P) _ _ hrl he cl.argTypes o.type
  have e2 : (cl.args.toList.map a.eval).toArray = cl.args.map a.eval := by cases cl.args; simp
  rw [e2] at hs
  exact hex (do pure (.value (← Builtin.max_ cl.argTypes o.type (cl.args.map a.eval)))) (fun consts => by simp [builtin]) (Good.val inv e hs)
 case min =>
  have hrl := vZ7 hr _ _ ha
  have : c = .mn args := by
   unfold cBuiltin at hc; simpa using hc.symm
  subst this
  obtain ⟨e, hs⟩ := mn_sound (P := P) _ _ hrl he cl.argTypes o.type
  have e2 : (cl.args.toList.map a.eval).toArray = cl.args.map a.eval := by cases cl.args; simp
  rw [e2] at hs
  exact hex (do pure (.value (← Builtin.min_ cl.argTypes o.type (cl.args.map a.eval)))) (fun consts => by simp [builtin]) (Good.val inv e hs)
 case append =>
  obtain ⟨t, u, e, d, q, s, y, hts, rfl, h1, h2, h3, h4, rfl⟩ := cB_append hc
  obtain ⟨o1, o2, hm, ht, r1, r2⟩ := two hts rfl
  exact hex (do pure (.value (← Builtin.append_ #[t, u] o.type #[a.eval o1, a.eval o2]))) (fun consts => by rw [hm, ht]; simp [builtin]) (Good.ret (app_sound inv h1 h2 h3 h4 r1 r2 he))
 case copy =>
  obtain ⟨t, u, e, q, s, y, hts, rfl, h1, h4, rfl⟩ := cB_copy hc
  obtain ⟨o1, o2, hm, ht, r1, r2⟩ := two hts rfl
  exact hex (do pure (.value (← Builtin.copy_ #[t, u] o.type #[a.eval o1, a.eval o2]))) (fun consts => by rw [hm, ht]; simp [builtin]) (Good.ret (copy_sound inv h1 h4 r1 r2 he))
 case delete =>
  obtain ⟨t, u, kt, e, ks, s, y, hts, rfl, h1, h4, rfl⟩ := cB_delete hc
  obtain ⟨o1, o2, hm, ht, r1, r2⟩ := two hts rfl
  exact hex (do pure (.value (← Builtin.delete_ #[t, u] o.type #[a.eval o1, a.eval o2]))) (fun consts => by rw [hm, ht]; simp [builtin]) (Good.ret (del_sound inv h1 h4 r1 r2 he))
 case clear =>
  obtain ⟨t, e, q, y, hts, rfl, h1, h4, rfl⟩ := cB_clear hc
  obtain ⟨o1, r, hl, g1, g2⟩ := wZT ha
  have := kZK g2
  subst this
  exact hex (do pure (.value (← Builtin.clear_ #[t] o.type #[a.eval o1]))) (fun consts => by rw [arr1 hts, arr1 hl]; simp [builtin]) (Good.ret (clr_sound inv h1 h4 (zZ2 hr g1) he))
 all_goals (exfalso; unfold cBuiltin at hc; simp at hc)
end
end Go.Ev
