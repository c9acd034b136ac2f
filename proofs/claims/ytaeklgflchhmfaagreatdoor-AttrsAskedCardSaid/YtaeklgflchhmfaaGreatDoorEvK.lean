/- Structs and slices that are built; make. Building structs and slices, make, append, copy. append, copy, slices of slices, len. append, as the evaluator says. No conditions. -/
import Derived.Test.YtaeklgflchhmfaaGreatDoorEvI
set_option maxHeartbeats 16000000
set_option maxRecDepth 100000
set_option linter.unusedVariables false
set_option linter.unusedSimpArgs false
set_option linter.unusedSectionVars false
namespace Go.Ev
open Go.RowKit
section
variable {P : Program} {G : Glob} {B : Base G} {S : Cells} {w : World} {κ : Kap} {h : Heap}
theorem fold_putA : ∀ (l : List Value) (i off : Nat) (cells : Array Value),
  (l.zipIdx i).foldl (fun cs (p : Value × Nat) => cs.setIfInBounds (off + p.2) p.1) cells = putA cells (off + i) l
 | [], _, _, _ => rfl
 | v :: r, i, off, cells => by
  simp only [List.zipIdx_cons, List.foldl_cons, putA]
  rw [fold_putA r (i + 1) off]
  rfl
theorem zipIdx_fold (a : Array Value) (off : Nat) (cells : Array Value) :
  a.zipIdx.foldl (fun cs (c, j) => cs.setIfInBounds (off + j) c) cells = putA cells off a.toList := by
 have := fold_putA a.toList 0 off cells
 rw [Nat.add_zero] at this
 rw [← this, ← Array.foldl_toList, Array.toList_zipIdx]
theorem vZB (place : Nat → Option (Nat × Nat)) : ∀ (ps : List (Nat × Nat × V)) (us : List (Nat × Value)) (cs : List V) (c : Array Value) (zs : List V),
  us.length = ps.length → (∀ (i : Nat) (p : Nat × Nat × V) (q : Nat × Value), ps[i]? = some p → us[i]? = some q → place q.1 = some (p.1, p.2.1) ∧ RV S w κ p.2.2 q.2) →
  RL S w κ cs c.toList → cs.all V.isCell = true → placeParts cs ps = some zs →
  ∃ c', Instr.fill place c us = some c' ∧ RL S w κ zs c'.toList ∧ zs.all V.isCell = true ∧ zs.length = cs.length
 | [], [], cs, c, zs, _, _, hr, hc, hp => by
  simp only [placeParts, Option.some.injEq] at hp
  subst hp
  exact ⟨c, rfl, hr, hc, rfl⟩
 | [], _ :: _, _, _, _, hl, _, _, _, _ => by simp at hl
 | _ :: _, [], _, _, _, hl, _, _, _, _ => by simp at hl
 | (off, sz, v) :: ps, (i, u) :: us, cs, c, zs, hl, hps, hr, hc, hp => by
  simp only [placeParts] at hp
  obtain ⟨⟨h1, h2⟩, h3⟩ := zZN hp
  split at h3
  ·rename_i cs' hset
   obtain ⟨s1, rfl⟩ := vZ6 hset
   obtain ⟨hpl, hv⟩ := hps 0 _ _ rfl rfl
   have hvu : v ≠ .undef := by rintro rfl; simp [V.cells, V.isCell] at h2
   have hrv := kZJ hv hvu
   have hlv := qZS hrv
   have hcl := qZS hr
   simp only [Array.length_toList] at hlv hcl
   have hfit : off + u.cells.toList.length ≤ c.size := by simp; omega
   have hr' : RL S w κ (cs.take off ++ v.cells ++ cs.drop (off + v.cells.length)) (putA c off u.cells.toList).toList := by
    rw [xZj _ _ _ hfit]
    rw [show u.cells.toList.length = v.cells.length by simp; omega]
    exact vZd (vZd (wZA _ hr) hrv) (wZz _ hr)
   have hc' : (cs.take off ++ v.cells ++ cs.drop (off + v.cells.length)).all V.isCell = true := by
    simp only [List.all_append, Bool.and_eq_true]
    refine ⟨⟨?_, h2⟩, ?_⟩
    ·exact List.all_eq_true.2 fun y hy => List.all_eq_true.1 hc y (List.mem_of_mem_take hy)
    ·exact List.all_eq_true.2 fun y hy => List.all_eq_true.1 hc y (List.mem_of_mem_drop hy)
   obtain ⟨c', f1, f2, f3, f4⟩ := vZB place ps us _ _ zs (by simpa using hl) (fun j p q hp hq => hps (j + 1) p q (by simpa using hp) (by simpa using hq)) hr' hc' h3
   refine ⟨c', ?_, f2, f3, by rw [f4]; simp; omega⟩
   simp only [Instr.fill, hpl]
   rw [if_neg (by simp; omega)]
   rw [zipIdx_fold]
   exact f1
  ·cases h3
theorem vZK {α β : Type} (f : α → Option β) : ∀ (l : List α) (r : List β), l.mapM f = some r → r.length = l.length ∧ ∀ (i : Nat) (a : α) (b : β), l[i]? = some a → r[i]? = some b → f a = some b
 | [], r, hh => by
  simp at hh; subst hh
  exact ⟨rfl, fun i a b ha => by simp at ha⟩
 | x :: l, r, hh => by
  simp only [List.mapM_cons, Option.bind_eq_bind, Option.bind_eq_some_iff, Option.pure_def, Option.some.injEq] at hh
  obtain ⟨y, hy, r', hr', rfl⟩ := hh
  obtain ⟨h1, h2⟩ := vZK f l r' hr'
  refine ⟨by simp [h1], fun i a b ha hb => ?_⟩
  cases i with
  | zero => simp at ha hb; subst ha; subst hb; exact hy
  | succ i => simp at ha hb; exact h2 i a b ha hb
theorem wZW (z : List Value) : ∀ (n i : Nat), i < n * z.length → (List.replicate n z).flatten[i]? = z[i % z.length]?
 | 0, i, hi => by simp at hi
 | n + 1, i, hi => by
  rw [List.replicate_succ, List.flatten_cons, List.getElem?_append]
  split
  ·rename_i hlt; rw [Nat.mod_eq_of_lt hlt]
  ·rename_i hge
   rw [wZW z n (i - z.length) (by rw [Nat.succ_mul] at hi; omega)]
   rw [Nat.mod_eq_sub_mod (a := i) (by omega)]
theorem xZv (z : Array Value) (n s : Nat) (hs : z.size = s) (h0 : s ≠ 0) :
  ((Array.range (n * s)).map (z[· % z.size]!)).toList = (List.replicate n z.toList).flatten := by
 apply List.ext_getElem?
 intro i
 simp only [Array.toList_map, Array.toList_range, List.getElem?_map, List.getElem?_range']
 by_cases hi : i < n * s
 ·rw [wZW z.toList n i (by simpa [hs] using hi)]
  have : i % z.size < z.size := Nat.mod_lt _ (by omega)
  simp [List.getElem?_range hi, this, getElem!_pos]
 ·have : (List.replicate n z.toList).flatten.length ≤ i := by simp [hs]; omega
  rw [List.getElem?_eq_none this, List.getElem?_eq_none (by simp; omega)]
  rfl
theorem jZe {z : List V} {c : List Value} (hr : RL S w κ z c) : ∀ n, RL S w κ (List.replicate n z).flatten (List.replicate n c).flatten
 | 0 => by simp [RL]
 | n + 1 => by
  simp only [List.replicate_succ, List.flatten_cons]
  exact vZd hr (jZe hr n)
theorem vZG (sz : Nat) : ∀ (n : Nat) (cs : List V), (chunks sz n cs).length = n
 | 0, _ => rfl
 | n + 1, cs => by simp [chunks, vZG sz n]
theorem jZZ (sz : Nat) : ∀ (n : Nat) (cs : List V) (i : Nat), i < n → (chunks sz n cs)[i]? = some ((cs.drop (i * sz)).take sz)
 | 0, _, _, hi => by omega
 | n + 1, cs, i, hi => by
  cases i with
  | zero => simp [chunks]
  | succ i =>
   simp only [chunks, List.getElem?_cons_succ]
   rw [jZZ sz n _ i (by omega), List.drop_drop, Nat.succ_mul, Nat.add_comm]
theorem RR_chunks {cs : List V} {c : List Value} (hr : RL S w κ cs c) (sz n : Nat) : RR S w κ (chunks sz n cs) 0 sz c := by
 intro i e _ he
 have hi : i < n := by
  have := (List.getElem?_eq_some_iff.1 he).1
  rwa [vZG] at this
 rw [jZZ sz n cs i hi] at he
 cases he
 exact wZA _ (wZz _ hr)
theorem chunks_mem {cs : List V} {sz n : Nat} (hl : cs.length = n * sz) (hc : cs.all V.isCell = true) : ∀ e ∈ chunks sz n cs, e.length = sz ∧ e.all V.isCell = true := by
 intro e he
 obtain ⟨i, hi, rfl⟩ := List.getElem_of_mem he
 have hin : i < n := by rwa [vZG] at hi
 have := jZZ sz n cs i hin
 rw [List.getElem?_eq_getElem hi] at this
 simp only [Option.some.injEq] at this
 rw [this]
 refine ⟨?_, ?_⟩
 ·have : (i + 1) * sz ≤ n * sz := Nat.mul_le_mul_right _ hin
  rw [Nat.succ_mul] at this
  simp; omega
 ·exact List.all_eq_true.2 fun y hy => List.all_eq_true.1 hc y (List.mem_of_mem_drop (List.mem_of_mem_take hy))
end
open Go.RowKit
section
variable {P : Program} {G : Glob} {B : Base G} {S : Cells} {w : World} {κ : Kap} {h : Heap}
theorem mapM_run {α β : Type} (f : α → Sem β) (g : α → β) (w' : World) : ∀ (l : List α), (∀ a ∈ l, (f a).run P w' = .ok (g a) w') → (l.mapM f).run P w' = .ok (l.map g) w'
 | [], _ => by simp
 | a :: l, hh => by
  simp only [List.mapM_cons, Sem.run_bind, hh a (by simp), Result.andThen_ok, mapM_run f g w' l (fun x hx => hh x (by simp [hx]))]
  simp
theorem places_run (fs : Array Field) (hf : ∀ f ∈ fs, (sizeT P f.type).isSome = true) (w' : World) :
  (fs.mapM (fun f => (do pure (f.offset, ← sizeOf f.type) : Sem (Nat × Nat)))).run P w' = .ok (fs.map fun f => (f.offset, (sizeT P f.type).getD 0)) w' := by
 rw [Array.mapM_eq_mapM_toList, Sem.run_map]
 rw [mapM_run (P := P) _ (fun f => (f.offset, (sizeT P f.type).getD 0)) w' fs.toList]
 ·simp only [Result.andThen_ok]
  congr 1
  apply Array.ext'
  simp
 ·intro f hmem
  obtain ⟨n, hn⟩ := Option.isSome_iff_exists.1 (hf f (by simpa using hmem))
  simp [vZf hn, hn]
theorem kZj {z : List V} {ps : List (Nat × Nat × V)} {x : V} {h' : Heap} (hh : evBuild h z ps = some (x, h')) :
  ∃ cs, placeParts z ps = some cs ∧ x = .agg cs ∧ h' = h := by
 unfold evBuild at hh
 split at hh
 ·rename_i cs hc
  simp only [fS_eq, Option.some.injEq, Prod.mk.injEq] at hh
  exact ⟨cs, hc, hh.1.symm, hh.2.symm⟩
 ·cases hh
theorem jZw {env : List V} {a : Act} (hr : RL S w κ env a.tmps.toList) {t : TypeId} {fs : Array Field} {z : List V} {parts : Array (Nat × Operand)} {l : List (Nat × Nat × Od)}
  (ht : P.underlying t = some (.struct fs)) (hz : zeroT P t = some (.agg z)) (hf : fs.all (fun f => (sizeT P f.type).isSome) = true)
  (hl : parts.toList.mapM (fun (p : Nat × Operand) =>
    match fs[p.1]?, cOd p.2 with
    | some f, some x => (sizeT P f.type).map fun s => (f.offset, s, x)
    | _, _ => none) = some l) {x : V} {h' : Heap} (hh : evBuild h z (l.map fun p => (p.1, p.2.1, p.2.2.ev env)) = some (x, h')) :
  h' = h ∧ ∃ v, RV S w κ x v ∧ ∀ w', (Instr.build t (parts.map fun (i, x) => (i, a.eval x))).run P w' = .ok v w' := by
 obtain ⟨cs, hp, rfl, rfl⟩ := kZj hh
 obtain ⟨v, hv, hrun⟩ := wZy hz
 obtain ⟨hrz, hcz⟩ := vZi (S := S) (w := w) (κ := κ) hv
 obtain ⟨m1, m2⟩ := vZK _ _ _ hl
 obtain ⟨c', f1, f2, f3, f4⟩ := vZB (S := S) (w := w) (κ := κ) (fun i => (fs.map fun f => (f.offset, (sizeT P f.type).getD 0))[i]?) _
  (parts.toList.map fun p => (p.1, a.eval p.2)) z v.cells cs (by simpa using m1.symm) (by
   intro i p q hp hq
   simp only [List.getElem?_map, Option.map_eq_some_iff] at hp hq
   obtain ⟨p', hp', rfl⟩ := hp
   obtain ⟨q', hq', rfl⟩ := hq
   have := m2 i q' p' hq' hp'
   split at this
   ·rename_i f y hf' hy
    simp only [Option.map_eq_some_iff] at this
    obtain ⟨s, hs, rfl⟩ := this
    refine ⟨?_, zZ2 hr hy⟩
    simp [hf', hs]
   ·cases this) hrz hcz hp
 refine ⟨rfl, .agg c', ?_, fun w' => ?_⟩
 ·simp only [RV]; exact ⟨_, rfl, f2⟩
 ·have hpl := places_run (P := P) fs (fun f hm => (Array.all_eq_true_iff_forall_mem.1 hf) f hm) w'
  simp only [Instr.build, Sem.run_bind, hrun, Result.andThen_ok, run_underlying ht, hpl]
  have e : (parts.map fun (p : Nat × Operand) => (p.1, a.eval p.2)).toList = parts.toList.map fun p => (p.1, a.eval p.2) := by simp
  rw [show (fun (x : Nat × Operand) => match x with | (i, x) => (i, a.eval x)) = fun p => (p.1, a.eval p.2) from rfl, e, f1]
  rfl
theorem jZU {env : List V} {a : Act} (hr : RL S w κ env a.tmps.toList) {t e : TypeId} {n s : Nat} {z : List V} {parts : Array (Nat × Operand)} {l : List (Nat × Nat × Od)}
  (ht : P.underlying t = some (.array n e)) (hz : zeroT P t = some (.agg z)) (hs : sizeT P e = some s)
  (hl : parts.toList.mapM (fun (p : Nat × Operand) => (cOd p.2).map fun x => (p.1 * s, s, x)) = some l)
  {x : V} {h' : Heap} (hh : evBuild h z (l.map fun p => (p.1, p.2.1, p.2.2.ev env)) = some (x, h')) :
  h' = h ∧ ∃ v, RV S w κ x v ∧ ∀ w', (Instr.build t (parts.map fun (i, x) => (i, a.eval x))).run P w' = .ok v w' := by
 obtain ⟨cs, hp, rfl, rfl⟩ := kZj hh
 obtain ⟨v, hv, hrun⟩ := wZy hz
 obtain ⟨hrz, hcz⟩ := vZi (S := S) (w := w) (κ := κ) hv
 obtain ⟨m1, m2⟩ := vZK _ _ _ hl
 obtain ⟨c', f1, f2, f3, f4⟩ := vZB (S := S) (w := w) (κ := κ) (fun i => some (i * s, s)) _
  (parts.toList.map fun p => (p.1, a.eval p.2)) z v.cells cs (by simpa using m1.symm) (by
   intro i p q hp hq
   simp only [List.getElem?_map, Option.map_eq_some_iff] at hp hq
   obtain ⟨p', hp', rfl⟩ := hp
   obtain ⟨q', hq', rfl⟩ := hq
   have := m2 i q' p' hq' hp'
   simp only [Option.map_eq_some_iff] at this
   obtain ⟨y, hy, rfl⟩ := this
   exact ⟨rfl, zZ2 hr hy⟩) hrz hcz hp
 refine ⟨rfl, .agg c', ?_, fun w' => ?_⟩
 ·simp only [RV]; exact ⟨_, rfl, f2⟩
 ·simp only [Instr.build, Sem.run_bind, hrun, Result.andThen_ok, run_underlying ht, vZf hs]
  have e : (parts.map fun (p : Nat × Operand) => (p.1, a.eval p.2)).toList = parts.toList.map fun p => (p.1, a.eval p.2) := by simp
  rw [show (fun (x : Nat × Operand) => match x with | (i, x) => (i, a.eval x)) = fun p => (p.1, a.eval p.2) from rfl, e, f1]
  rfl
theorem bslice_sound (inv : Inv P B S w κ h) {env : List V} {a : Act} (hr : RL S w κ env a.tmps.toList) {t e : TypeId} {len : Nat} {q : Nat × Nat × List V} {parts : Array (Nat × Operand)} {l : List (Nat × Od)}
  (ht : P.underlying t = some (.slice e)) (hq : elemT P e = some q) (hsz : ¬ len * q.1 > 2 ^ 24)
  (hl : parts.toList.mapM (fun (p : Nat × Operand) => (cOd p.2).map fun x => (p.1, x)) = some l)
  {x : V} {h' : Heap} (hh : evBslice h q.2.2 len q.1 (l.map fun p => (p.1, p.2.ev env)) = some (x, h')) :
  ∃ v w' S' κ', (Instr.buildSlice t len (parts.map fun (i, x) => (i, a.eval x))).run P w = .ok v w' ∧ Inv P B S' w' κ' h' ∧ Stp B S w κ S' w' κ' ∧ RV S' w' κ' x v := by
 obtain ⟨i, v, z, hi, hv, hz, rfl, n1, n2, n3, r1, r2, r3⟩ := vZl hq
 obtain ⟨hrz, hcz⟩ := vZi (S := S) (w := w) (κ := κ) hz
 unfold evBslice at hh
 split at hh
 ·rename_i cs hp
  simp only [qZ4, Option.some.injEq, Prod.mk.injEq] at hh
  obtain ⟨rfl, rfl⟩ := hh
  obtain ⟨m1, m2⟩ := vZK _ _ _ hl
  have hlz := qZS hrz
  simp only [Array.length_toList] at hlz
  have hcells : RL S w κ (List.replicate len z.cells).flatten ((Array.range (len * i.size)).map (v.cells[· % v.cells.size]!)).toList := by
   rw [xZv v.cells len i.size n3 n1]
   exact jZe hrz len
  have hall : (List.replicate len z.cells).flatten.all V.isCell = true := by
   apply List.all_eq_true.2
   intro y hy
   simp only [List.mem_flatten, List.mem_replicate] at hy
   obtain ⟨l', ⟨_, rfl⟩, hy⟩ := hy
   exact List.all_eq_true.1 hcz y hy
  obtain ⟨c', f1, f2, f3, f4⟩ := vZB (S := S) (w := w) (κ := κ) (fun j => some (j * i.size, i.size)) _
   (parts.toList.map fun p => (p.1, a.eval p.2)) _ _ cs (by simpa using m1.symm) (by
    intro j p q hp hq
    simp only [List.getElem?_map, List.map_map, Option.map_eq_some_iff] at hp hq
    obtain ⟨p', hp', rfl⟩ := hp
    obtain ⟨q', hq', rfl⟩ := hq
    have := m2 j q' p' hq' hp'
    simp only [Option.map_eq_some_iff] at this
    obtain ⟨y, hy, rfl⟩ := this
    exact ⟨rfl, zZ2 hr hy⟩) hcells hall hp
  have hlen : cs.length = len * i.size := by
   rw [f4]; simp; rw [hlz, n3]
  have hc'size : c'.size = len * i.size := by
   have := qZS f2
   simp only [Array.length_toList] at this
   omega
  obtain ⟨g1, g2, g3⟩ := xZa inv e len i.size (by omega) hc'size (by rw [vZG]; exact Nat.le_refl _) (chunks_mem hlen f3) (RR_chunks f2 i.size len)
  rw [vZG] at g3
  refine ⟨_, _, _, _, ?_, g1, g2, g3⟩
  have e' : (parts.map fun (p : Nat × Operand) => (p.1, a.eval p.2)).toList = parts.toList.map fun p => (p.1, a.eval p.2) := by simp
  have hsz' : ¬ (len * i.size > 2 ^ 24) := hsz
  simp only [Instr.buildSlice, Sem.run_bind, run_underlying ht, Result.andThen_ok, r2, if_neg hsz']
  rw [show (fun (x : Nat × Operand) => match x with | (i, x) => (i, a.eval x)) = fun p => (p.1, a.eval p.2) from rfl]
  by_cases h0 : len * i.size = 0
  ·have e4 : Array.map (fun x => (#[] : Array Value)[x % (#[] : Array Value).size]!) (Array.range (len * i.size)) = Array.map (fun x => v.cells[x % v.cells.size]!) (Array.range (len * i.size)) := by simp [h0]
   rw [if_pos h0]
   simp only [Sem.run_bind, Sem.run_pure, Result.andThen_ok]
   rw [e4, e', f1]
   rfl
  ·rw [if_neg h0]
   simp only [Sem.run_bind, Sem.run_pure, Result.andThen_ok, r1]
   rw [e', f1]
   rfl
 ·cases hh
theorem mks_sound (inv : Inv P B S w κ h) {t e : TypeId} {q : Nat × Nat × List V} (ht : P.underlying t = some (.slice e)) (hq : elemT P e = some q)
  {x y z : V} {u v : Value} {h' : Heap} (hx : RV S w κ x u) (hy : RV S w κ y v) (hh : evMks h q.2.2 q.1 q.2.1 x y = some (z, h')) :
  ∃ r w' S' κ', (Instr.makeSlice t u v).run P w = .ok r w' ∧ Inv P B S' w' κ' h' ∧ Stp B S w κ S' w' κ' ∧ RV S' w' κ' z r := by
 obtain ⟨i, zv, z0, hi, hv, hz, rfl, n1, n2, n3, r1, r2, r3⟩ := vZl hq
 obtain ⟨hrz, hcz⟩ := vZi (S := S) (w := w) (κ := κ) hz
 have hlz := qZS hrz
 simp only [Array.length_toList] at hlz
 unfold evMks at hh
 split at hh
 ·rename_i k n
  split at hh
  ·rename_i k' m
   simp only [RV] at hx hy
   subst hx; subst hy
   obtain ⟨⟨c1, c2, c3⟩, h1⟩ := zZN hh
   simp only [qZ5, qZ4, Option.some.injEq, Prod.mk.injEq] at h1
   obtain ⟨rfl, rfl⟩ := h1
   have hroom : m * i.bytes ≤ 140737488355328 := c3
   have hb1 : (1 : Int) ≤ i.bytes := by omega
   have hm : m ≤ 140737488355328 := by
    have : m * 1 ≤ m * i.bytes := Int.mul_le_mul_of_nonneg_left hb1 (by omega)
    omega
   have wn : IntKind.i64.wrap n = n := by simp [IntKind.wrap, IntKind.bits, IntKind.signed]; omega
   have wm : IntKind.i64.wrap m = m := by simp [IntKind.wrap, IntKind.bits, IntKind.signed]; omega
   have hcomm : (i.bytes : Int) * m = m * i.bytes := Int.mul_comm _ _
   let c := (Array.range (m.toNat * i.size)).map (zv.cells[· % zv.cells.size]!)
   have hcl : c.toList = (List.replicate m.toNat zv.cells.toList).flatten := xZv zv.cells m.toNat i.size n3 n1
   obtain ⟨g1, g2, g3⟩ := xZa inv (xs := List.replicate n.toNat z0.cells) (c := c) e m.toNat i.size (by omega) (by simp [c]) (by simp; omega)
    (fun x hx => by
     rw [List.mem_replicate] at hx
     rw [hx.2]
     exact ⟨by rw [hlz, n3], hcz⟩)
    (fun j x _ hx => by
     have hj : j < n.toNat := by simpa using (List.getElem?_eq_some_iff.1 hx).1
     rw [List.getElem?_replicate, if_pos hj] at hx
     cases hx
     have : ((c.toList.drop ((j - 0) * i.size)).take i.size) = zv.cells.toList := by
      rw [hcl]
      apply List.ext_getElem?
      intro p
      rw [List.getElem?_take]
      split
      ·rename_i hp
       have hb : j * i.size + p < m.toNat * zv.cells.toList.length := by
        have : (j + 1) * i.size ≤ m.toNat * i.size := Nat.mul_le_mul_right _ (by omega)
        rw [Nat.succ_mul] at this
        simp only [Array.length_toList, n3]
        omega
       rw [List.getElem?_drop, Nat.sub_zero, wZW _ _ _ hb]
       congr 1
       simp only [Array.length_toList, n3]
       rw [Nat.mul_comm, Nat.mul_add_mod, Nat.mod_eq_of_lt hp]
      ·rename_i hp
       rw [List.getElem?_eq_none]
       simp; omega
     rw [this]
     exact hrz)
   rw [List.length_replicate] at g3
   refine ⟨_, _, _, _, ?_, g1, g2, g3⟩
   have t1 : (decide (m < 0) || decide ((i.bytes : Int) * m > 2 ^ 48)) = false := by
    simp; rw [hcomm]; omega
   simp only [Instr.makeSlice, Sem.run_bind, run_underlying ht, Result.andThen_ok, r3, r2, wn, wm]
   simp only [asInt, asIntOf, Sem.run_bind, Sem.run_pure, Result.andThen_ok, wn, wm, t1]
   rw [if_neg (by simp; omega)]
   simp only [Sem.run_bind, run_askRoom, Result.andThen_ok, r2]
   by_cases h0 : m.toNat * i.size = 0
   ·have e4 : Array.map (fun x => (#[] : Array Value)[x % (#[] : Array Value).size]!) (Array.range (m.toNat * i.size)) = c := by simp [h0, c]
    rw [if_pos h0]
    simp only [Sem.run_bind, Sem.run_pure, Result.andThen_ok, newRow, run_newObj]
    rw [e4]
    rfl
   ·rw [if_neg h0]
    simp only [Sem.run_bind, Sem.run_pure, Result.andThen_ok, r1, newRow, run_newObj]
    rfl
  ·cases hh
 ·cases hh
end
open Go.RowKit
section
variable {P : Program} {G : Glob} {B : Base G} {S : Cells} {w : World} {κ : Kap} {h : Heap}
theorem jZN {sz : Nat} {xs : List (List V)} : szOk sz xs = true ↔ ∀ e ∈ xs, e.length = sz := by
 simp [szOk]
theorem wZa {b sz : Nat} : ∀ (es : List (List V)) (o : Nat), (∀ i e, es[i]? = some e → e.length = sz ∧ Cel S w κ b (o + i * sz) e) → Cel S w κ b o es.flatten
 | [], o, _, j, x, hx => by simp at hx
 | e :: es, o, hh, j, x, hx => by
  obtain ⟨h1, h2⟩ := hh 0 e rfl
  rw [Nat.zero_mul, Nat.add_zero] at h2
  rw [List.flatten_cons, List.getElem?_append] at hx
  split at hx
  ·exact h2 j x hx
  ·rename_i hge
   have := wZa es (o + sz) (fun i e' he => by
    obtain ⟨k1, k2⟩ := hh (i + 1) e' (by simpa using he)
    rw [Nat.succ_mul] at k2
    exact ⟨k1, by rwa [show o + sz + i * sz = o + (i * sz + sz) by omega]⟩) (j - e.length) x hx
   rwa [show o + sz + (j - e.length) = o + j by omega] at this
theorem vZO {sz : Nat} : ∀ (es : List (List V)), (∀ e ∈ es, e.length = sz) → es.flatten.length = es.length * sz
 | [], _ => by simp
 | e :: es, hh => by
  simp only [List.flatten_cons, List.length_append, List.length_cons]
  rw [hh e (by simp), vZO es (fun x hx => hh x (by simp [hx])), Nat.succ_mul]
  omega
theorem vZa (inv : Inv P B S w κ h) {sz : Nat} (h0 : sz ≠ 0) {x : V} {u : Value} {es : List (List V)} (hx : RV S w κ x u) (hh : elemsOf h x = some es) (hsz : ∀ e ∈ es, e.length = sz) :
  (Builtin.lenOf u).run P w = .ok es.length w ∧ (∀ y ∈ es.flatten, y.isCell = true) ∧
  ∀ m, m ≤ es.length → ∃ vs : List Value, vs.length = m * sz ∧ RL S w κ (es.take m).flatten vs ∧ (Builtin.firstCells sz m u).run P w = .ok vs.toArray w := by
 have key : ∀ (a : Addr) (n cap : Nat), n = es.length → (∀ m, m ≤ es.length → m ≠ 0 → ∃ b o, a = ⟨b, o, none⟩ ∧ Cel S w κ b o es.flatten) →
   ∀ m, m ≤ es.length → ∃ vs : List Value, vs.length = m * sz ∧ RL S w κ (es.take m).flatten vs ∧ (Builtin.firstCells sz m (.slice (some a) n cap)).run P w = .ok vs.toArray w := by
  intro a n cap hn hc m hm
  by_cases hm0 : m = 0
  ·subst hm0
   exact ⟨[], by simp, by simp [RL], by simp [Builtin.firstCells, loadCells, loadCellsFrom]⟩
  ·obtain ⟨b, o, rfl, hcel⟩ := hc m hm hm0
   have hfl : (es.take m).flatten = es.flatten.take (m * sz) := by
    have e1 : es.flatten = (es.take m).flatten ++ (es.drop m).flatten := by rw [← List.flatten_append, List.take_append_drop]
    have e2 : (es.take m).flatten.length = m * sz := by
     rw [vZO (sz := sz) _ (fun e he => hsz e (List.mem_of_mem_take he))]
     simp [Nat.min_eq_left hm]
    rw [e1, ← e2, List.take_left']
    rfl
   have hle : m * sz ≤ es.flatten.length := by
    rw [vZO es hsz]
    exact Nat.mul_le_mul_right _ hm
   obtain ⟨vs, l, r, k⟩ := Cel_list (m * sz) hcel hle
   refine ⟨vs, l, by rw [hfl]; exact r, ?_⟩
   have := run_loadCells_list (P := P) w ⟨b, o, none⟩ vs (fun j v hv => by rw [vZE]; exact k j v hv)
   rw [l] at this
   simp [Builtin.firstCells, this]
 unfold elemsOf at hh
 split at hh
 ·cases hh
  simp only [RV] at hx
  subst hx
  refine ⟨by simp [Builtin.lenOf], by simp, fun m hm => ?_⟩
  have : m = 0 := by simpa using hm
  subst this
  exact ⟨[], by simp, by simp [RL], by simp [Builtin.firstCells]⟩
 ·cases hh
  simp only [RV] at hx
  obtain ⟨a, rfl⟩ := hx
  refine ⟨by simp [Builtin.lenOf], by simp, fun m hm => ?_⟩
  have : m = 0 := by simpa using hm
  subst this
  cases a with
  | none => exact ⟨[], by simp, by simp [RL], by simp [Builtin.firstCells]⟩
  | some a => exact key a 0 0 rfl (fun m hm h => by simp at hm; exact absurd hm h) 0 (Nat.le_refl _)
 ·rename_i xs
  cases hh
  simp only [RV] at hx
  obtain ⟨a, cap, rfl, hcap, hx⟩ := hx
  rcases hx with rfl | ⟨b, o, sz', rfl, hre⟩
  ·refine ⟨by simp [Builtin.lenOf], by simp, fun m hm => ?_⟩
   have : m = 0 := by simpa using hm
   subst this
   cases a with
   | none => exact ⟨[], by simp, by simp [RL], by simp [Builtin.firstCells]⟩
   | some a => exact ⟨[], by simp, by simp [RL], by simp [Builtin.firstCells, loadCells, loadCellsFrom]⟩
  ·have hcells : ∀ (ys : List V) (b o : Nat), RC S w ys b o → ∀ y ∈ ys, y.isCell = true := by
    intro ys
    induction ys with
    | nil => simp
    | cons y ys ih =>
     intro b o hr z hz
     simp only [RC] at hr
     rcases List.mem_cons.1 hz with rfl | hz
     ·obtain ⟨_, ⟨_, _, i, _⟩, _⟩ := hr; exact i
     ·exact ih b (o + 1) hr.2.2 z hz
   refine ⟨by simp [Builtin.lenOf], fun y hy => ?_, key _ _ _ rfl (fun m hm hm0 => ⟨b, o, rfl, wZa (sz := sz) _ o (fun i e he => ?_)⟩)⟩
   ·obtain ⟨e, he, hy⟩ := List.mem_flatten.1 hy
    obtain ⟨i, hi⟩ := List.getElem?_of_mem he
    exact hcells e b _ (kZS hre hi).2 y hy
   ·obtain ⟨k1, k2⟩ := kZS hre he
    have : sz' = sz := by rw [← k1]; exact hsz e (List.mem_of_getElem? he)
    subst this
    exact ⟨k1, jZo k2⟩
 ·rename_i s
  cases hh
  simp only [RV] at hx
  subst hx
  refine ⟨by simp [Builtin.lenOf, bytesOf], fun y hy => ?_, fun m hm => ?_⟩
  ·obtain ⟨e, he, hy⟩ := List.mem_flatten.1 hy
   simp only [bytesOf, List.mem_map] at he
   obtain ⟨b, _, rfl⟩ := he
   simp at hy; subst hy; rfl
  ·by_cases hm0 : m = 0
   ·subst hm0
    refine ⟨[], by simp, by simp [RL], ?_⟩
    simp [Builtin.firstCells]
   ·have hs1 : sz = 1 := by
     cases hb : bytesOf s with
     | nil => rw [hb] at hm; simp at hm; omega
     | cons e r =>
      have h1 := hsz e (by rw [hb]; simp)
      have h2 : e ∈ bytesOf s := by rw [hb]; simp
      simp only [bytesOf, List.mem_map] at h2
      obtain ⟨b, _, rfl⟩ := h2
      simpa using h1.symm
    subst hs1
    refine ⟨(s.data.toList.take m).map fun b => Value.int .u8 b.toNat, ?_, ?_, ?_⟩
    ·simp [bytesOf] at hm
     simp; omega
    ·have e1 : ((bytesOf s).take m).flatten = (s.data.toList.take m).map fun b => V.int .u8 b.toNat := by
      rw [bytesOf, ← List.map_take]
      generalize s.data.toList.take m = l
      induction l with
      | nil => rfl
      | cons b l ih => simp [ih]
     rw [e1]
     generalize s.data.toList.take m = l
     induction l with
     | nil => simp [RL]
     | cons b l ih => simp only [List.map_cons, RL, RV]; exact ⟨trivial, ih⟩
    ·simp only [Builtin.firstCells, Sem.run_pure]
     congr 1
     apply Array.ext'
     simp
 ·rename_i id ep off len
  split at hh
  ·rename_i zz xs cur wr hi
   obtain ⟨⟨hep, hle⟩, h1⟩ := qZR hh
   subst hep
   subst h1
   obtain ⟨b, st, cp, c, el, fr, g1, g2, g3, g4, g5, g6, g7, g8, g9, g10, g11⟩ := vZk inv hi
   simp only [RV] at hx
   obtain ⟨e', b', st', cp', sz'', a, cc, k1, k2, rfl, kl, k3⟩ := hx
   rw [g1] at k1; cases k1
   obtain ⟨k4, k5, k6, k7⟩ := k3 rfl
   have hlen : ((xs.drop off).take len).length = len := by simp; omega
   refine ⟨by simp [Builtin.lenOf]; omega, fun y hy => ?_, key _ _ _ hlen.symm (fun m hm hm0 => ?_)⟩
   ·obtain ⟨e, he, hy⟩ := List.mem_flatten.1 hy
    exact List.all_eq_true.1 (g8 e (List.mem_of_mem_drop (List.mem_of_mem_take he))).2 y hy
   ·rw [hlen] at hm
    rcases k7 with k7 | rfl
    ·omega
    ·refine ⟨_, _, rfl, wZa (sz := sz) _ _ (fun i e he => ?_)⟩
     rw [List.getElem?_take] at he
     split at he
     ·rw [List.getElem?_drop] at he
      have hs' : zz = sz := by
       rw [← (g8 e (List.mem_of_getElem? he)).1]
       exact hsz e (by
        refine List.mem_of_getElem? (i := i) ?_
        rw [List.getElem?_take, if_pos (by assumption), List.getElem?_drop]
        exact he)
      subst hs'
      refine ⟨(g8 e (List.mem_of_getElem? he)).1, ?_⟩
      have := row_cel g2 g8 g9 (by omega) he
      rwa [show (off + i - st) * zz = (off - st) * zz + i * zz by rw [← Nat.add_mul]; congr 1; omega] at this
     ·cases he
  ·cases hh
 ·cases hh
theorem app_fits {t u T e : TypeId} {q : Nat × Nat × List V} (ht : P.underlying t = some (.slice e)) {d : TypeDesc} (hu : P.underlying u = some d) (hd : ∀ k, d ≠ .int k) (hq : elemT P e = some q)
  {a : Addr} {sLen sCap n : Nat} {y : Value} {vs : List Value} (hl : (Builtin.lenOf y).run P w = .ok n w) (hf : (Builtin.firstCells q.1 n y).run P w = .ok vs.toArray w)
  (hc : sLen + n ≤ sCap) {w1 : World} (hst : (storeCells (a.add (sLen * q.1)) vs).run P w = .ok () w1) :
  (Builtin.append_ #[t, u] T #[.slice (some a) sLen sCap, y]).run P w = .ok (.slice (some a) (sLen + n) sCap) w1 := by
 obtain ⟨i, zv, z0, hi, hv, hz, rfl, n1, n2, n3, r1, r2, r3⟩ := vZl hq
 have hd' : (match d with | TypeDesc.int _ => true | _ => false) = false := by
  cases d <;> first | rfl | exact absurd rfl (hd _)
 simp only [Builtin.append_, List.getElem?_toArray, List.getElem?_cons_zero, List.getElem?_cons_succ, Sem.run_bind, run_underlying ht, run_underlying hu, Result.andThen_ok, r2]
 simp only [Sem.run_bind, run_underlying hu, Result.andThen_ok, Sem.run_pure, hd', Bool.false_eq_true, if_false, hl, Bool.not_false, if_true, if_pos hc, hf, hst]
theorem app_grows {t u T e : TypeId} {q : Nat × Nat × List V} (ht : P.underlying t = some (.slice e)) {d : TypeDesc} (hu : P.underlying u = some d) (hd : ∀ k, d ≠ .int k) (hq : elemT P e = some q)
  {base : Option Addr} {sLen sCap n : Nat} {y : Value} {vs os : List Value} (hl : (Builtin.lenOf y).run P w = .ok n w) (hf : (Builtin.firstCells q.1 n y).run P w.drew = .ok vs.toArray w.drew)
  (ho : (Builtin.firstCells q.1 sLen (.slice base sLen sCap)).run P w.drew = .ok os.toArray w.drew)
  (hc : ¬ sLen + n ≤ sCap) (hroom : (sLen + n) * q.2.1 ≤ roomB) :
  ∃ cap c, sLen + n ≤ cap ∧ c.size = os.length + vs.length + (cap - (sLen + n)) * q.1 ∧ (∀ j, j < os.length + vs.length → c.toList[j]? = (os ++ vs)[j]?) ∧
  (Builtin.append_ #[t, u] T #[.slice base sLen sCap, y]).run P w = .ok (.slice (some ⟨w.heap.size, 0, none⟩) (sLen + n) cap) (w.drew.alloc (.cells c e)) := by
 obtain ⟨i, zv, z0, hi, hv, hz, rfl, n1, n2, n3, r1, r2, r3⟩ := vZl hq
 have hd' : (match d with | TypeDesc.int _ => true | _ => false) = false := by
  cases d <;> first | rfl | exact absurd rfl (hd _)
 have hfit := growslice_fits (need := sLen + n) (old := sCap) (bytes := i.bytes) (by omega) hroom
 let cap := (Question.appendCap (sLen + n) sCap e).cut (w.tape w.drawn (.appendCap (sLen + n) sCap e))
 have hcap : sLen + n ≤ cap := by simp only [cap, Question.cut]; omega
 refine ⟨cap, os.toArray ++ vs.toArray ++ Builtin.zeroCells zv.cells (cap - (sLen + n)), hcap, ?_, ?_, ?_⟩
 ·simp [Builtin.zeroCells, n3]
 ·intro j hj
  simp only [Array.toList_append, List.append_assoc, ← List.append_assoc]
  rw [List.getElem?_append_left (by simpa using hj)]
 ·simp only [Builtin.append_, List.getElem?_toArray, List.getElem?_cons_zero, List.getElem?_cons_succ, Sem.run_bind, run_underlying ht, run_underlying hu, Result.andThen_ok, r2]
  simp only [Sem.run_bind, run_underlying hu, Result.andThen_ok, Sem.run_pure, hd', Bool.false_eq_true, if_false, hl, Bool.not_false, if_true, if_neg hc, r3]
  rw [if_neg (by
   rintro ⟨_, h2⟩
   rcases h2 with h2 | h2
   ·cases h2
   ·exact n2 h2)]
  simp only [Sem.run_bind, Sem.run_pure, Result.andThen_ok, r3]
  rw [if_neg (by
   have : (2 : Nat) ^ 48 = 281474976710656 := by decide
   omega)]
  simp only [Sem.run_bind, Sem.run_pure, Result.andThen_ok, r3, run_choose, Question.forced, Bool.false_eq_true, if_false, run_askRoom]
  have ho1 : (Builtin.firstCells i.size sLen (.slice base sLen sCap)).run P { w with drawn := w.drawn + 1 } = .ok os.toArray { w with drawn := w.drawn + 1 } := ho
  have hf1 : (Builtin.firstCells i.size n y).run P { w with drawn := w.drawn + 1 } = .ok vs.toArray { w with drawn := w.drawn + 1 } := hf
  rw [ho1]
  simp only [Result.andThen_ok]
  rw [hf1]
  simp only [Result.andThen_ok, r1, newRow, Sem.run_bind, run_newObj, Sem.run_pure]
  rfl
end
open Go.RowKit
section
variable {P : Program} {G : Glob} {B : Base G} {S : Cells} {w : World} {κ : Kap} {h : Heap}
theorem xZ0 {sz : Nat} {es : List (List V)} (hs : ∀ e ∈ es, e.length = sz) {i : Nat} {e : List V} (he : es[i]? = some e) : (es.flatten.drop (i * sz)).take sz = e := by
 apply List.ext_getElem?
 intro j
 rw [List.getElem?_take, List.getElem?_drop]
 have hl := hs e (List.mem_of_getElem? he)
 split
 ·rename_i hj
  exact kZ6 sz es hs i j e he hj
 ·rw [List.getElem?_eq_none (by omega)]
theorem RR_flat {sz st : Nat} {xs : List (List V)} {vs c : List Value} (hs : ∀ e ∈ xs, e.length = sz) (hr : RL S w κ (xs.drop st).flatten vs)
  (hc : ∀ j, j < vs.length → c[j]? = vs[j]?) : RR S w κ xs st sz c := by
 intro i e hi he
 have hs' : ∀ e ∈ xs.drop st, e.length = sz := fun e he => hs e (List.mem_of_mem_drop he)
 have he' : (xs.drop st)[i - st]? = some e := by rw [List.getElem?_drop, show st + (i - st) = i by omega]; exact he
 have h1 := xZ0 hs' he'
 have h2 := wZA (S := S) (w := w) (κ := κ) sz (wZz ((i - st) * sz) hr)
 rw [h1] at h2
 have hl := qZS hr
 rw [vZO _ hs'] at hl
 have hil : i - st < (xs.drop st).length := (List.getElem?_eq_some_iff.1 he').1
 have hb : (i - st) * sz + sz ≤ vs.length := by
  rw [← hl, ← Nat.succ_mul]
  exact Nat.mul_le_mul_right _ hil
 have : (c.drop ((i - st) * sz)).take sz = (vs.drop ((i - st) * sz)).take sz := by
  apply List.ext_getElem?
  intro j
  simp only [List.getElem?_take, List.getElem?_drop]
  split
  ·exact hc _ (by omega)
  ·rfl
 rw [this]
 exact h2
theorem wZQ {sz : Nat} {es : List (List V)} (hs : ∀ e ∈ es, e.length = sz) (hc : ∀ y ∈ es.flatten, y.isCell = true) : ∀ e ∈ es, e.length = sz ∧ e.all V.isCell = true :=
 fun e he => ⟨hs e he, List.all_eq_true.2 fun y hy => hc y (List.mem_flatten.2 ⟨e, he, hy⟩)⟩
theorem app_none {a : Option Addr} {t u T e : TypeId} {q : Nat × Nat × List V} (ht : P.underlying t = some (.slice e)) {d : TypeDesc} (hu : P.underlying u = some d) (hd : ∀ k, d ≠ .int k) (hq : elemT P e = some q)
  {y : Value} (hl : (Builtin.lenOf y).run P w = .ok 0 w) (hf : (Builtin.firstCells q.1 0 y).run P w = .ok #[] w) :
  (Builtin.append_ #[t, u] T #[.slice a 0 0, y]).run P w = .ok (.slice a 0 0) w := by
 obtain ⟨i, zv, z0, hi, hv, hz, rfl, n1, n2, n3, r1, r2, r3⟩ := vZl hq
 have hd' : (match d with | TypeDesc.int _ => true | _ => false) = false := by
  cases d <;> first | rfl | exact absurd rfl (hd _)
 simp only [Builtin.append_, List.getElem?_toArray, List.getElem?_cons_zero, List.getElem?_cons_succ, Sem.run_bind, run_underlying ht, run_underlying hu, Result.andThen_ok, r2]
 simp only [Sem.run_bind, run_underlying hu, Result.andThen_ok, Sem.run_pure, hd', Bool.false_eq_true, if_false, hl, Bool.not_false, if_true]
 have hf' : (Builtin.firstCells i.size 0 y).run P w = .ok #[] w := hf
 rw [if_pos (by omega)]
 simp only [Sem.run_bind, hf', Result.andThen_ok]
 cases a with
 | none => rfl
 | some a => simp [storeCells]
theorem evApp_nils {sz by_ : Nat} {x z : V} {h' : Heap} {es : List (List V)} (he : elemsOf h x = some es) (hh : evApp h sz by_ .nils x = some (z, h')) :
  (es = [] ∧ z = .nils ∧ h' = h) ∨ (es ≠ [] ∧ es.length * by_ ≤ roomB ∧ (∀ e ∈ es, e.length = sz) ∧ z = .sl h.length 0 0 es.length ∧ h' = h ++ [.row sz es 0 true]) := by
 unfold evApp at hh
 rw [he] at hh
 cases es with
 | nil => simp at hh; exact .inl ⟨rfl, hh.1.symm, hh.2.symm⟩
 | cons e r =>
  right
  simp only at hh
  obtain ⟨⟨h1, h2⟩, h3⟩ := zZN hh
  simp only [qZ5, qZ4, Option.some.injEq, Prod.mk.injEq] at h3
  exact ⟨by simp, h1, jZN.1 h2, h3.1.symm, h3.2.symm⟩
theorem evApp_nile {sz by_ : Nat} {x z : V} {h' : Heap} {es : List (List V)} (he : elemsOf h x = some es) (hh : evApp h sz by_ .nile x = some (z, h')) :
  (es = [] ∧ z = .nile ∧ h' = h) ∨ (es ≠ [] ∧ es.length * by_ ≤ roomB ∧ (∀ e ∈ es, e.length = sz) ∧ z = .sl h.length 0 0 es.length ∧ h' = h ++ [.row sz es 0 true]) := by
 unfold evApp at hh
 rw [he] at hh
 cases es with
 | nil => simp at hh; exact .inl ⟨rfl, hh.1.symm, hh.2.symm⟩
 | cons e r =>
  right
  simp only at hh
  obtain ⟨⟨h1, h2⟩, h3⟩ := zZN hh
  simp only [qZ5, qZ4, Option.some.injEq, Prod.mk.injEq] at h3
  exact ⟨by simp, h1, jZN.1 h2, h3.1.symm, h3.2.symm⟩
theorem evApp_sl {sz by_ id ep off len : Nat} {x z : V} {h' : Heap} {es : List (List V)} (he : elemsOf h x = some es) (hh : evApp h sz by_ (.sl id ep off len) x = some (z, h')) :
    ∃ zz xs cur wr, h[id]? = some (.row zz xs cur wr) ∧
      ((es = [] ∧ z = .sl id ep off len ∧ h' = h) ∨
       (es ≠ [] ∧ ep = cur ∧ zz = sz ∧ (len + es.length) * by_ ≤ roomB ∧ (∀ e ∈ es, e.length = sz) ∧
         ((off + len = xs.length ∧ z = .sl id (cur + 1) off (len + es.length) ∧ h' = h.set id (.row zz (xs ++ es) (cur + 1) wr)) ∨
          (off + len + es.length ≤ xs.length ∧ wr = true ∧ z = .sl id ep off (len + es.length) ∧
            h' = h.set id (.row zz (xs.take (off + len) ++ es ++ xs.drop (off + len + es.length)) cur true))))) := by
  unfold evApp at hh
  rw [he] at hh
  simp only at hh
  split at hh
  · rename_i zz xs cur wr hi
    refine ⟨zz, xs, cur, wr, hi, ?_⟩
    cases es with
    | nil => simp at hh; exact .inl ⟨rfl, hh.1.symm, hh.2.symm⟩
    | cons e r =>
      right
      simp only at hh
      obtain ⟨⟨h1, hz, h2, h3⟩, h4⟩ := zZN hh
      refine ⟨by simp, h1, hz, h2, jZN.1 h3, ?_⟩
      split at h4
      · rename_i h5
        simp only [qZ5, qZW, Option.some.injEq, Prod.mk.injEq] at h4
        exact .inl ⟨h5, h4.1.symm, h4.2.symm⟩
      · obtain ⟨⟨h6, h7⟩, h8⟩ := zZN h4
        simp only [qZ5, qZW, Option.some.injEq, Prod.mk.injEq] at h8
        exact .inr ⟨h6, h7, h8.1.symm, h8.2.symm⟩
  · cases hh
theorem Inv.drawn (inv : Inv P B S w κ h) : Inv P B S w.drew κ h ∧ Stp B S w κ S w.drew κ := Inv.drew inv rfl rfl rfl rfl
theorem app_new (a : Option Addr) (inv : Inv P B S w κ h) {t u T e : TypeId} {q : Nat × Nat × List V} (ht : P.underlying t = some (.slice e)) {d : TypeDesc} (hu : P.underlying u = some d) (hd : ∀ k, d ≠ .int k)
  (hq : elemT P e = some q) {x : V} {y : Value} {es : List (List V)} (hx : RV S w κ x y) (hes : elemsOf h x = some es) (h0 : es ≠ []) (hroom : es.length * q.2.1 ≤ roomB) (hsz : ∀ e ∈ es, e.length = q.1) :
  ∃ r w' S' κ', (Builtin.append_ #[t, u] T #[.slice a 0 0, y]).run P w = .ok r w' ∧ Inv P B S' w' κ' (h ++ [.row q.1 es 0 true]) ∧ Stp B S w κ S' w' κ' ∧ RV S' w' κ' (.sl h.length 0 0 es.length) r := by
 have hq' := hq
 obtain ⟨ii, zv, z0, hi0, hv0, hz0, rfl, n1, n2, n3, r1, r2, r3⟩ := vZl hq
 obtain ⟨l1, _, _⟩ := vZa inv n1 hx hes hsz
 obtain ⟨inv1, st1⟩ := inv.drawn
 have hx1 := RV.mono st1.sle st1.kle _ _ hx
 obtain ⟨_, hcell, hf⟩ := vZa inv1 n1 hx1 hes hsz
 obtain ⟨vs, lv, rv, fv⟩ := hf es.length (Nat.le_refl _)
 rw [List.take_length] at rv
 have hpos : 0 < es.length := List.length_pos_iff.2 h0
 obtain ⟨cap, c, c1, c2, c3, c4⟩ := app_grows (T := T) (base := a) (sLen := 0) (sCap := 0) (os := []) ht hu hd hq' l1 fv (by cases a <;> simp [Builtin.firstCells, loadCells, loadCellsFrom]) (by omega) (by simpa using hroom)
 simp only [Nat.zero_add] at c1 c2 c4
 have hcs : c.size = cap * ii.size := by
  rw [c2, lv]
  simp only [List.length_nil, Nat.zero_add]
  rw [← Nat.add_mul]
  congr 1; omega
 obtain ⟨g1, g2, g3⟩ := xZa inv1 (xs := es) (c := c) e cap ii.size (by omega) hcs c1 (wZQ hsz hcell)
  (RR_flat hsz (by simpa using rv) (fun j hj => by have := c3 j (by simpa using hj); simpa using this))
 exact ⟨_, _, _, _, c4, g1, st1.trans g2, g3⟩
theorem kZT {S' : Cells} {w' : World} {κ' : Kap} (hs : Sle S w S' w') (hk : Kle κ κ') {xs : List (List V)} {st sz : Nat} {c : List Value} (hr : RR S w κ xs st sz c) : RR S' w' κ' xs st sz c :=
 fun i e hi he => RL.mono hs hk _ _ (hr i e hi he)
theorem RR_put {xs es : List (List V)} {st sz m : Nat} {c : Array Value} {vs : List Value} (hm : st ≤ m) (hmx : m ≤ xs.length) (hr : RR S w κ xs st sz c.toList) (hx : ∀ e ∈ xs, e.length = sz)
  (hes : ∀ e ∈ es, e.length = sz) (hv : RL S w κ es.flatten vs) (hfit : (m - st) * sz + vs.length ≤ c.size) :
  RR S w κ (xs.take m ++ es ++ xs.drop (m + es.length)) st sz (putA c ((m - st) * sz) vs).toList := by
 have hvl : vs.length = es.length * sz := by rw [← qZS hv, vZO es hes]
 intro i e hi he
 have ltk : (xs.take m).length = m := by simp; omega
 have l2 : (xs.take m ++ es).length = m + es.length := by simp; omega
 rw [List.getElem?_append, List.getElem?_append, ltk, l2] at he
 by_cases h1 : i < m
 ·rw [if_pos (by omega), if_pos h1, List.getElem?_take, if_pos h1] at he
  rw [wZp hfit]
  ·exact hr i e hi he
  ·left
   have : (i - st + 1) * sz ≤ (m - st) * sz := Nat.mul_le_mul_right _ (by omega)
   rw [Nat.succ_mul] at this
   omega
 ·by_cases h2 : i < m + es.length
  ·rw [if_pos h2, if_neg h1] at he
   have h3 := wZA (S := S) (w := w) (κ := κ) sz (wZz ((i - m) * sz) hv)
   rw [xZ0 hes he] at h3
   have hb : (i - m + 1) * sz ≤ es.length * sz := Nat.mul_le_mul_right _ (by omega)
   rw [Nat.succ_mul] at hb
   have : ((putA c ((m - st) * sz) vs).toList.drop ((i - st) * sz)).take sz = (vs.drop ((i - m) * sz)).take sz := by
    apply List.ext_getElem?
    intro j
    simp only [List.getElem?_take, List.getElem?_drop, Array.getElem?_toList]
    split
    ·have e1 : (i - st) * sz = (m - st) * sz + (i - m) * sz := by rw [← Nat.add_mul]; congr 1; omega
     rw [wZ7 vs c _ hfit, if_pos (by omega)]
     congr 1; omega
    ·rfl
   rw [this]
   exact h3
  ·rw [if_neg h2, List.getElem?_drop] at he
   have e1 : m + es.length + (i - (m + es.length)) = i := by omega
   rw [e1] at he
   rw [wZp hfit]
   ·exact hr i e hi he
   ·right
    have : (m - st + es.length) * sz ≤ (i - st) * sz := Nat.mul_le_mul_right _ (by omega)
    rw [Nat.add_mul] at this
    omega
theorem app_onto (inv : Inv P B S w κ h) {t u T e : TypeId} {q : Nat × Nat × List V} (ht : P.underlying t = some (.slice e)) {d : TypeDesc} (hu : P.underlying u = some d) (hd : ∀ k, d ≠ .int k)
  (hq : elemT P e = some q) {id off len : Nat} {x : V} {v y : Value} {es : List (List V)} {xs : List (List V)} {cur : Nat} {wr : Bool} (hi : h[id]? = some (.row q.1 xs cur wr))
  (hs : RV S w κ (.sl id cur off len) v) (hx : RV S w κ x y) (hes : elemsOf h x = some es) (h0 : es ≠ []) (hroom : (len + es.length) * q.2.1 ≤ roomB) (hsz : ∀ e ∈ es, e.length = q.1)
  (htip : off + len = xs.length) :
  ∃ r w' S' κ', (Builtin.append_ #[t, u] T #[v, y]).run P w = .ok r w' ∧ Inv P B S' w' κ' (h.set id (.row q.1 (xs ++ es) (cur + 1) wr)) ∧ Stp B S w κ S' w' κ' ∧
   RV S' w' κ' (.sl id (cur + 1) off (len + es.length)) r := by
 have hq' := hq
 obtain ⟨ii, zv, z0, hi0, hv0, hz0, rfl, n1, n2, n3, r1, r2, r3⟩ := vZl hq
 obtain ⟨l1, hcell, hf⟩ := vZa inv n1 hx hes hsz
 obtain ⟨b, st, cp, c, el, fr, g1, g2, g3, g4, g5, g6, g7, g8, g9, g10, g11⟩ := vZk inv hi
 simp only [RV] at hs
 obtain ⟨e', b', st', cp', sz', a, cc, k1, k2, rfl, kl, k3⟩ := hs
 rw [g1] at k1; cases k1
 obtain ⟨k4, k5, k6, k7⟩ := k3 rfl
 have hpos : 0 < es.length := List.length_pos_iff.2 h0
 have hilt := (inv.dom _ _ g1).1
 have hb := (Array.getElem?_eq_some_iff.1 g2).1
 have hbB := (inv.dom _ _ g1).2.1
 obtain ⟨vs, lv, rv, fv⟩ := hf es.length (Nat.le_refl _)
 rw [List.take_length] at rv
 have hxs : ∀ e ∈ xs, e.length = ii.size := fun e he => (g8 e he).1
 have hmem : ∀ e ∈ xs ++ es, e.length = ii.size ∧ e.all V.isCell = true := fun e he => by
  rcases List.mem_append.1 he with he | he
  ·exact g8 e he
  ·exact wZQ hsz hcell e he
 by_cases hfit : len + es.length ≤ cc
 ·-- within the capacity
  have hane : a = ⟨b, (off - st) * ii.size, none⟩ := by
   rcases k7 with k7 | k7
   ·omega
   ·exact k7
  subst hane
  have e1 : (off - st) * ii.size + len * ii.size = (xs.length - st) * ii.size := by
   rw [← Nat.add_mul]; congr 1; omega
  have hput : (xs.length - st) * ii.size + 0 + vs.length ≤ c.size := by
   rw [lv, g5, Nat.add_zero, ← Nat.add_mul]
   exact Nat.mul_le_mul_right _ (by omega)
  have hone : ∀ v ∈ vs, v.oneCell' = true := vZL rv (List.all_eq_true.2 hcell)
  have hst := qZ2 (P := P) vs ((xs.length - st) * ii.size) 0 c w g2 g3.1 hput hone
  have hrun := app_fits (T := T) ht hu hd hq' (a := ⟨b, (off - st) * ii.size, none⟩) l1 fv hfit (w1 := World.withBlock w b (.cells (putA c ((xs.length - st) * ii.size + 0) vs) el fr))
   (by rw [vZE, e1]; exact hst)
  have hput' : (xs.length - st) * ii.size + vs.length ≤ c.size := by omega
  have hW := Inv.write inv g1 (.cells (putA c ((xs.length - st) * ii.size + 0) vs) el fr) (.row (cur + 1) b st cp ii.size) (.later _ _ _ _ _ _ _ _ _ (by omega)) rfl
   (.row ii.size (xs ++ es) (cur + 1) wr) (fun o hs => by
    have ho : o < (xs.length - st) * ii.size := by
     rcases Nat.lt_or_ge o ((xs.length - st) * ii.size) with h | h
     ·exact h
     ·exact absurd hs (g10 o h)
    show (World.withBlock w b _).cell? ⟨b, o, none⟩ = w.cell? ⟨b, o, none⟩
    rw [wZi _ _ _ (qZH w _ _ hb), wZi w _ _ g2, Nat.add_zero, wZ7 vs c _ hput', if_neg (by omega)]) (fun sle kle => by
    refine ⟨b, st, cp, _, el, fr, qZo _ _ _, qZH _ _ _ hb, by rw [vZs]; exact g3, g4, by rw [vZs]; exact g5, by simp; omega, by simp; omega, hmem, ?_, ?_, g11⟩
    ·have := RR_put (S := S) (w := w) (κ := κ) (m := xs.length) g6 (Nat.le_refl _) g9 hxs hsz rv hput'
     rw [List.take_length, List.drop_eq_nil_of_le (by omega), List.append_nil] at this
     exact kZT sle kle this
    ·intro o ho
     refine g10 o (Nat.le_trans (Nat.mul_le_mul_right _ ?_) ho)
     simp; omega)
  refine ⟨_, _, _, _, hrun, hW.1, hW.2, ?_⟩
  simp only [RV]
  exact ⟨_, b, st, cp, _, _, _, qZo _ _ _, Nat.le_refl _, rfl, by omega, fun _ => ⟨k4, by omega, by omega, .inr rfl⟩⟩
 ·-- a new block
  obtain ⟨inv1, st1⟩ := inv.drawn
  have hx1 := RV.mono st1.sle st1.kle _ _ hx
  obtain ⟨_, _, hf1⟩ := vZa inv1 n1 hx1 hes hsz
  obtain ⟨vs1, lv1, rv1, fv1⟩ := hf1 es.length (Nat.le_refl _)
  rw [List.take_length] at rv1
  have hsl : RV S w.drew κ (.sl id cur off len) (.slice (some a) len cc) := by
   simp only [RV]
   exact ⟨_, b, st, cp, _, _, _, g1, Nat.le_refl _, rfl, kl, fun _ => ⟨k4, k5, k6, k7⟩⟩
  have hel : elemsOf h (.sl id cur off len) = some (xs.drop off) := by
   simp only [elemsOf, hi, true_and]
   rw [if_pos (by omega), List.take_of_length_le (by simp; omega)]
  obtain ⟨_, _, hf2⟩ := vZa inv1 n1 hsl hel (fun e he => hxs e (List.mem_of_mem_drop he))
  obtain ⟨os, lo, ro, fo⟩ := hf2 len (by simp; omega)
  rw [List.take_of_length_le (by simp; omega)] at ro
  obtain ⟨cap, c', c1, c2, c3, c4⟩ := app_grows (T := T) ht hu hd hq' l1 fv1 fo hfit hroom
  have hcs : c'.size = cap * ii.size := by
   rw [c2, lo, lv1, ← Nat.add_mul, ← Nat.add_mul]
   congr 1; omega
  have hW := Inv.fresh inv1 id (by omega) (.cells c' e) (.row (cur + 1) w.heap.size off cap ii.size)
   (fun k hk => by rw [g1] at hk; cases hk; exact .later _ _ _ _ _ _ _ _ _ (by omega)) rfl (h.set id (.row ii.size (xs ++ es) (cur + 1) wr))
   (fun i o hne ho => by rwa [List.getElem?_set_ne (Ne.symm hne)] at ho) (by simp) (by simpa using hilt) (fun sle kle o ho => by
    rw [List.getElem?_set_self hilt] at ho
    cases ho
    refine ⟨w.heap.size, off, cap, c', e, (0, 0), qZo _ _ _, vZt w.drew _, ⟨jZO _, fun _ => jZO _⟩, g4, hcs, by simp; omega, by simp; omega, hmem, ?_, fun o _ ho => ?_, fun _ o ho => ?_⟩
    ·refine kZT sle kle (RR_flat (fun e he => (hmem e he).1) (vs := os ++ vs1) ?_ (fun j hj => c3 j (by simpa using hj)))
     rw [List.drop_append_of_le_length (by omega), List.flatten_append]
     exact vZd ro rv1
    ·exact absurd (inv.sb _ _ ho) (by omega)
    ·exact absurd (inv.sb _ _ ho) (by omega))
  refine ⟨_, _, _, _, c4, hW.1, st1.trans hW.2, ?_⟩
  simp only [RV]
  exact ⟨_, _, off, cap, _, _, _, qZo _ _ _, Nat.le_refl _, rfl, c1, fun _ => ⟨Nat.le_refl _, by omega, by omega, .inr (by simp)⟩⟩
theorem app_over (inv : Inv P B S w κ h) {t u T e : TypeId} {q : Nat × Nat × List V} (ht : P.underlying t = some (.slice e)) {d : TypeDesc} (hu : P.underlying u = some d) (hd : ∀ k, d ≠ .int k)
  (hq : elemT P e = some q) {id off len : Nat} {x : V} {v y : Value} {es : List (List V)} {xs : List (List V)} {cur : Nat} (hi : h[id]? = some (.row q.1 xs cur true))
  (hs : RV S w κ (.sl id cur off len) v) (hx : RV S w κ x y) (hes : elemsOf h x = some es) (h0 : es ≠ []) (hsz : ∀ e ∈ es, e.length = q.1)
  (hin : off + len + es.length ≤ xs.length) :
  ∃ r w' S' κ', (Builtin.append_ #[t, u] T #[v, y]).run P w = .ok r w' ∧
   Inv P B S' w' κ' (h.set id (.row q.1 (xs.take (off + len) ++ es ++ xs.drop (off + len + es.length)) cur true)) ∧ Stp B S w κ S' w' κ' ∧
   RV S' w' κ' (.sl id cur off (len + es.length)) r := by
 have hq' := hq
 obtain ⟨ii, zv, z0, hi0, hv0, hz0, rfl, n1, n2, n3, r1, r2, r3⟩ := vZl hq
 obtain ⟨l1, hcell, hf⟩ := vZa inv n1 hx hes hsz
 obtain ⟨b, st, cp, c, el, fr, g1, g2, g3, g4, g5, g6, g7, g8, g9, g10, g11⟩ := vZk inv hi
 simp only [RV] at hs
 obtain ⟨e', b', st', cp', sz', a, cc, k1, k2, rfl, kl, k3⟩ := hs
 rw [g1] at k1; cases k1
 obtain ⟨k4, k5, k6, k7⟩ := k3 rfl
 have hpos : 0 < es.length := List.length_pos_iff.2 h0
 have hb := (Array.getElem?_eq_some_iff.1 g2).1
 obtain ⟨vs, lv, rv, fv⟩ := hf es.length (Nat.le_refl _)
 rw [List.take_length] at rv
 have hxs : ∀ e ∈ xs, e.length = ii.size := fun e he => (g8 e he).1
 have hfit : len + es.length ≤ cc := by omega
 have hane : a = ⟨b, (off - st) * ii.size, none⟩ := by
  rcases k7 with k7 | k7
  ·omega
  ·exact k7
 subst hane
 have e1 : (off - st) * ii.size + len * ii.size = (off + len - st) * ii.size := by
  rw [← Nat.add_mul]; congr 1; omega
 have hput : (off + len - st) * ii.size + 0 + vs.length ≤ c.size := by
  rw [lv, g5, Nat.add_zero, ← Nat.add_mul]
  exact Nat.mul_le_mul_right _ (by omega)
 have hone : ∀ v ∈ vs, v.oneCell' = true := vZL rv (List.all_eq_true.2 hcell)
 have hst := qZ2 (P := P) vs ((off + len - st) * ii.size) 0 c w g2 g3.1 hput hone
 have hrun := app_fits (T := T) ht hu hd hq' (a := ⟨b, (off - st) * ii.size, none⟩) l1 fv hfit (w1 := World.withBlock w b (.cells (putA c ((off + len - st) * ii.size + 0) vs) el fr))
  (by rw [vZE, e1]; exact hst)
 have hput' : (off + len - st) * ii.size + vs.length ≤ c.size := by omega
 have hlen : (xs.take (off + len) ++ es ++ xs.drop (off + len + es.length)).length = xs.length := by simp; omega
 have hW := Inv.write inv g1 (.cells (putA c ((off + len - st) * ii.size + 0) vs) el fr) (.row cur b st cp ii.size) (.refl _) rfl
  (.row ii.size (xs.take (off + len) ++ es ++ xs.drop (off + len + es.length)) cur true) (fun o hs => absurd hs (g11 rfl o)) (fun sle kle => by
   refine ⟨b, st, cp, _, el, fr, qZo _ _ _, qZH _ _ _ hb, by rw [vZs]; exact g3, g4, by rw [vZs]; exact g5, by rw [hlen]; exact g6, by rw [hlen]; exact g7, ?_, ?_, by rw [hlen]; exact g10, g11⟩
   ·intro e he
    rcases List.mem_append.1 he with he | he
    ·rcases List.mem_append.1 he with he | he
     ·exact g8 e (List.mem_of_mem_take he)
     ·exact wZQ hsz hcell e he
    ·exact g8 e (List.mem_of_mem_drop he)
   ·exact kZT sle kle (RR_put (S := S) (w := w) (κ := κ) (m := off + len) (by omega) (by omega) g9 hxs hsz rv hput'))
 refine ⟨_, _, _, _, hrun, hW.1, hW.2, ?_⟩
 simp only [RV]
 exact ⟨_, b, st, cp, _, _, _, qZo _ _ _, Nat.le_refl _, rfl, by omega, fun _ => ⟨k4, by omega, by omega, .inr rfl⟩⟩
theorem app_sound (inv : Inv P B S w κ h) {t u T e : TypeId} {q : Nat × Nat × List V} (ht : P.underlying t = some (.slice e)) {d : TypeDesc} (hu : P.underlying u = some d) (hd : ∀ k, d ≠ .int k)
  (hq : elemT P e = some q) {s x z : V} {v y : Value} {h' : Heap} (hs : RV S w κ s v) (hx : RV S w κ x y) (hh : evApp h q.1 q.2.1 s x = some (z, h')) :
  ∃ r w' S' κ', (Builtin.append_ #[t, u] T #[v, y]).run P w = .ok r w' ∧ Inv P B S' w' κ' h' ∧ Stp B S w κ S' w' κ' ∧ RV S' w' κ' z r := by
 have n1 : q.1 ≠ 0 := by
  obtain ⟨ii, zv, z0, hi0, hv0, hz0, rfl, n1, _⟩ := vZl hq
  exact n1
 cases hes : elemsOf h x with
 | none => unfold evApp at hh; rw [hes] at hh; cases hh
 | some es =>
  cases s with
  | nils =>
   simp only [RV] at hs
   subst hs
   rcases evApp_nils hes hh with ⟨rfl, rfl, rfl⟩ | ⟨h0, h1, h2, rfl, rfl⟩
   ·obtain ⟨l1, _, hf⟩ := vZa inv n1 hx hes (by simp)
    obtain ⟨vs, lv, rv, fv⟩ := hf 0 (Nat.le_refl _)
    have : vs = [] := by simpa using lv
    subst this
    exact ⟨_, _, S, κ, app_none ht hu hd hq l1 fv, inv, .refl _ _ _ _, by simp [RV]⟩
   ·exact app_new none inv ht hu hd hq hx hes h0 h1 h2
  | nile =>
   simp only [RV] at hs
   obtain ⟨a, rfl⟩ := hs
   rcases evApp_nile hes hh with ⟨rfl, rfl, rfl⟩ | ⟨h0, h1, h2, rfl, rfl⟩
   ·obtain ⟨l1, _, hf⟩ := vZa inv n1 hx hes (by simp)
    obtain ⟨vs, lv, rv, fv⟩ := hf 0 (Nat.le_refl _)
    have : vs = [] := by simpa using lv
    subst this
    exact ⟨_, _, S, κ, app_none ht hu hd hq l1 fv, inv, .refl _ _ _ _, by simp [RV]⟩
   ·exact app_new a inv ht hu hd hq hx hes h0 h1 h2
  | sl id ep off len =>
   obtain ⟨zz, xs, cur, wr, hi, hc⟩ := evApp_sl hes hh
   rcases hc with ⟨rfl, rfl, rfl⟩ | ⟨h0, rfl, rfl, h2, h3, h4⟩
   ·obtain ⟨l1, _, hf⟩ := vZa inv n1 hx hes (by simp)
    obtain ⟨vs, lv, rv, fv⟩ := hf 0 (Nat.le_refl _)
    have : vs = [] := by simpa using lv
    subst this
    have hs' := hs
    simp only [RV] at hs
    obtain ⟨e', b', st', cp', sz', a, cc, k1, k2, rfl, kl, k3⟩ := hs
    exact ⟨_, _, S, κ, app_fits (T := T) ht hu hd hq l1 fv (by simpa using kl) (w1 := w) rfl, inv, .refl _ _ _ _, hs'⟩
   ·rcases h4 with ⟨h5, rfl, rfl⟩ | ⟨h5, rfl, rfl, rfl⟩
    ·exact app_onto inv ht hu hd hq hi hs hx hes h0 h2 h3 h5
    ·exact app_over inv ht hu hd hq hi hs hx hes h0 h3 h5
  | _ => unfold evApp at hh; rw [hes] at hh; cases hh
end
end Go.Ev
