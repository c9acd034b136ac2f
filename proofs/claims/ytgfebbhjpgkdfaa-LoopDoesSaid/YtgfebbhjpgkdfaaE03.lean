/- The evaluator, part 3: Maps. Maps that are written. Every operation that is no call, together. Every operation that is no call of a function. Every operation that is no call of a function, whatever it does to memory. Every operation that is no call of a function: what it does. States and acts; operations within a region. No conditions. -/
import Derived.Test.YtgfebbhjpgkdfaaE02
namespace Go.Ev
open Go.RowKit
set_option linter.unusedVariables false
set_option linter.unusedSectionVars false
set_option linter.unusedSimpArgs false

section
variable {P : Program} {B : Nat} {S : Cells} {w : World} {κ : Kap} {h : Heap}

theorem leaf_ck {d : Nat} {t : TypeId} {k : Ck} (h : eqD P d t = some (.leaf k)) : ckT P t k := by
  cases d with
  | zero => simp [eqD] at h
  | succ d =>
    simp only [eqD] at h
    split at h
    · rename_i ht; cases h; exact ht
    · rename_i q ht; cases h; exact ⟨q, ht⟩
    · rename_i ht; cases h; exact ht
    · obtain ⟨_, h⟩ := ite_none' h
      simp only [Option.bind_eq_some_iff] at h
      obtain ⟨q, _, h⟩ := h
      obtain ⟨_, a, b, c, e, he⟩ := nn_some h
      cases he
    · simp only [Option.bind_eq_some_iff] at h
      obtain ⟨_, _, _, _, q, _, h⟩ := h
      obtain ⟨_, a, b, c, e, he⟩ := nn_some h
      cases he
    · cases h

/-- What a key's look asks, in parts. -/
def checkFs (d : Nat) (cs : Array Value) (empty : Bool) : List Field → Sem Unit
  | [] => pure ()
  | f :: fs => if f.name ≠ "_" then do Instr.checkKey empty d f.type (← part f.type cs f.offset); checkFs d cs empty fs else checkFs d cs empty fs
def checkEs (d : Nat) (e : TypeId) (n : Nat) (cs : Array Value) (empty : Bool) : List Nat → Sem Unit
  | [] => pure ()
  | i :: is => do Instr.checkKey empty d e (← part e cs (i * n)); checkEs d e n cs empty is

theorem checkFs_run (empty : Bool) (d : Nat) (cs : Array Value) (w' : World) : ∀ (fs : List Field),
    (forIn fs PUnit.unit (fun f _ => do
      if f.name ≠ "_" then do
        Instr.checkKey empty d f.type (← part f.type cs f.offset)
        pure (ForInStep.yield PUnit.unit)
      else pure (ForInStep.yield PUnit.unit)) : Sem PUnit).run P w' = ((checkFs d cs empty fs).run P w').andThen fun _ w => .ok PUnit.unit w := by
  intro fs
  induction fs generalizing w' with
  | nil => simp [checkFs]
  | cons f fs ih =>
    simp only [List.forIn_cons, checkFs, Sem.run_bind, Sem.run_ite]
    split
    · generalize (part f.type cs f.offset).run P w' = r1
      cases r1 with
      | ok a w1 =>
        simp only [Sem.run_bind, Result.andThen_ok]
        generalize (Instr.checkKey empty d f.type a).run P w1 = r2
        cases r2 with
        | ok b w2 => simp only [Result.andThen_ok, Sem.run_pure]; exact ih w2
        | halt x w2 => simp [Result.andThen]
      | halt x w1 => simp [Result.andThen]
    · simp only [Sem.run_pure, Result.andThen_ok]
      exact ih w'

theorem checkFs_sound (D : Nat) (empty : Bool) (go : TypeId → Option Eqd)
    (hgo : ∀ t q, go t = some q → ∀ x u r, RV S w κ x u → eqdV q x x = some r → ∀ w', (Instr.checkKey empty D t u).run P w' = .ok () w')
    {xs : List V} {cs : Array Value} (hx : RL S w κ xs cs.toList) :
    ∀ (fs : List Field) (q : Eqd) (r : Bool), eqD.eqFs P go fs = some q → eqdV q (.agg xs) (.agg xs) = some r →
      ∀ w', (checkFs D cs empty fs).run P w' = .ok () w' := by
  intro fs
  induction fs with
  | nil => intro q r hq he w'; simp [checkFs]
  | cons f fs ih =>
    intro q r hq he w'
    simp only [eqD.eqFs] at hq
    split at hq
    · rename_i hn
      simp only [checkFs, hn, ne_eq, not_true, if_false]
      exact ih q r hq he w'
    · rename_i hn
      split at hq
      · rename_i q1 ag r1 h1 h2 h3
        cases hq
        simp only [eqdV] at he
        split at he
        · rename_i a ha
          split at he
          · rename_i b hb
            cases hb
            split at he
            · rename_i p hp
              split at he
              · rename_i qq hqq
                obtain ⟨u, hu, pu⟩ := part_sound (P := P) h2 hx ha
                have e1 := hgo _ _ h1 a u p hu hp
                have e2 := ih r1 qq h3 hqq
                simp only [checkFs, ne_eq, hn, not_false_eq_true, if_true, Sem.run_bind, pu, e1, Result.andThen_ok, e2]
              · cases he
            · cases he
          · cases he
        · cases he
      · cases hq

theorem checkEs_run (empty : Bool) (d : Nat) (e : TypeId) (n : Nat) (hn : sizeT P e = some n) (cs : Array Value) (w' : World) : ∀ (is : List Nat),
    (forIn is PUnit.unit (fun i _ => do
      Instr.checkKey empty d e (← part e cs (i * (← sizeOf e)))
      pure (ForInStep.yield PUnit.unit)) : Sem PUnit).run P w' = ((checkEs d e n cs empty is).run P w').andThen fun _ w => .ok PUnit.unit w := by
  intro is
  induction is generalizing w' with
  | nil => simp [checkEs]
  | cons i is ih =>
    simp only [List.forIn_cons, checkEs, Sem.run_bind, sizeT_run hn, Result.andThen_ok]
    generalize (part e cs (i * n)).run P w' = r1
    cases r1 with
    | ok a w1 =>
      simp only [Sem.run_bind, Result.andThen_ok]
      generalize (Instr.checkKey empty d e a).run P w1 = r2
      cases r2 with
      | ok b w2 => simp only [Result.andThen_ok, Sem.run_pure]; exact ih w2
      | halt x w2 => simp [Result.andThen]
    | halt x w1 => simp [Result.andThen]

theorem checkEs_sound (D : Nat) (empty : Bool) {e : TypeId} {n : Nat} {ag : Option Nat} {q : Eqd} (ha : aggT P e = some ag)
    (hgo : ∀ x u r, RV S w κ x u → eqdV q x x = some r → ∀ w', (Instr.checkKey empty D e u).run P w' = .ok () w')
    {xs : List V} {cs : Array Value} (hx : RL S w κ xs cs.toList) :
    ∀ (m i : Nat) (r : Bool), eqdV (eqD.eqAs n ag q m i) (.agg xs) (.agg xs) = some r → ∀ w', (checkEs D e n cs empty (List.range' i m)).run P w' = .ok () w' := by
  intro m
  induction m with
  | zero => intro i r he w'; simp [checkEs]
  | succ m ih =>
    intro i r he w'
    simp only [eqD.eqAs, eqdV] at he
    split at he
    · rename_i a hxa
      split at he
      · rename_i b hb
        cases hb
        split at he
        · rename_i p hp
          split at he
          · rename_i qq hqq
            obtain ⟨u, hu, pu⟩ := part_sound (P := P) ha hx hxa
            have e1 := hgo a u p hu hp
            have e2 := ih (i + 1) qq hqq
            simp only [List.range'_succ, checkEs, Sem.run_bind, pu, e1, Result.andThen_ok, e2]
          · cases he
        · cases he
      · cases he
    · cases he

theorem checkKey_sound : ∀ (d : Nat) (t : TypeId) (q : Eqd), eqD P d t = some q → ∀ x u r, RV S w κ x u → eqdV q x x = some r → ∀ empty D w', d ≤ D → (Instr.checkKey empty D t u).run P w' = .ok () w' := by
  intro d
  induction d with
  | zero => intro t q h; simp [eqD] at h
  | succ d ih =>
    intro t q h x u r hx he empty D w' hD
    obtain ⟨D, rfl⟩ : ∃ m, D = m + 1 := ⟨D - 1, by omega⟩
    simp only [eqD] at h
    split at h
    · rename_i ht; cases h
      simp [Instr.checkKey, run_underlying ht]
    · rename_i k ht; cases h
      simp [Instr.checkKey, run_underlying ht]
    · rename_i ht; cases h
      simp [Instr.checkKey, run_underlying ht]
    · rename_i fs ht
      obtain ⟨hst, h⟩ := ite_none' h
      simp only [Option.bind_eq_some_iff] at h
      obtain ⟨q', hq', h⟩ := h
      obtain ⟨rfl, a, b, c, e, rfl⟩ := nn_some h
      obtain ⟨xs, ys, rfl, hy⟩ := eqdV_cons he
      clear hy
      simp only [RV] at hx
      obtain ⟨cs, rfl, hx⟩ := hx
      have h1 := checkFs_sound (P := P) D empty (eqD P d) (fun t' q' h' x' u' r' hx' he' w'' => ih t' q' h' x' u' r' hx' he' empty D w'' (by omega)) hx fs.toList _ _ hq' he w'
      have h2 := checkFs_run (P := P) empty D cs w' fs.toList
      rw [h1] at h2
      simp only [Instr.checkKey, Sem.run_bind, run_underlying ht, Result.andThen_ok]
      rw [← Array.forIn_toList, h2]
      rfl
    · rename_i n e ht
      simp only [Option.bind_eq_some_iff] at h
      obtain ⟨s, hs, ag, hag, q', hq', h⟩ := h
      obtain ⟨h1, a, b, c, e', rfl⟩ := nn_some h
      obtain ⟨xs, ys, rfl, hy⟩ := eqdV_cons he
      clear hy
      simp only [RV] at hx
      obtain ⟨cs, rfl, hx⟩ := hx
      have k1 := checkEs_sound (P := P) (n := s) D empty hag (fun x' u' r' hx' he' w'' => ih e q' hq' x' u' r' hx' he' empty D w'' (by omega)) hx n 0 r (by rw [h1]; exact he) w'
      have k2 := checkEs_run (P := P) empty D e s hs cs w' (List.range' 0 n)
      rw [k1] at k2
      simp only [Instr.checkKey, Sem.run_bind, run_underlying ht, Result.andThen_ok]
      rw [Std.Legacy.Range.forIn_eq_forIn_range']
      simp only [Std.Legacy.Range.size, Nat.sub_zero, Nat.add_sub_cancel, Nat.div_one]
      rw [k2]
      rfl
    · cases h

/-! ### A key among entries -/
theorem sameNow_sound {d : Nat} {t : TypeId} {q : Eqd} (h : eqD P d t = some q) {desc : TypeDesc} (hd : P.underlying t = some desc) {x y : V} {u v : Value} {r b : Bool}
    (hx : RV S w κ x u) (hy : RV S w κ y v) (he : eqdV q x y = some r) (hs : Instr.sameNow desc u v = some b) : b = r := by
  cases d with
  | zero => simp [eqD] at h
  | succ d =>
    simp only [eqD, hd] at h
    cases desc <;> simp only [reduceCtorEq] at h
    case bool =>
      cases h
      obtain ⟨a, c, rfl, rfl, rfl⟩ := cellEq_b he
      simp only [RV] at hx hy; subst hx; subst hy
      simpa [Instr.sameNow] using hs.symm
    case int =>
      cases h
      obtain ⟨k, a, c, rfl, rfl, rfl⟩ := cellEq_i he
      simp only [RV] at hx hy; subst hx; subst hy
      simpa [Instr.sameNow] using hs.symm
    case string =>
      cases h
      obtain ⟨a, c, rfl, rfl, rfl⟩ := cellEq_s he
      simp only [RV] at hx hy; subst hx; subst hy
      simp only [Instr.sameNow, Option.some.injEq] at hs
      rw [← hs, beq_toListBytes, bytes_eq]
    all_goals (simp [Instr.sameNow] at hs)

/-- What was found, there and here. -/
def FR (S : Cells) (w : World) (κ : Kap) : Option (Nat × V) → Option (Nat × Value) → Prop
  | none, none => True
  | some (i, x), some (j, u) => i = j ∧ RV S w κ x u
  | _, _ => False

theorem findKey_sound {kt : TypeId} {ks : Eqd} (hk : eqD P 20 kt = some ks) {k : V} {kv : Value} (hkv : RV S w κ k kv) : ∀ (es : List (V × V × Nat)) (es' : List MapEntry) (i : Nat) (r : Option (Nat × V)),
    ME S w κ es es' → findKey ks k es i = some r → ∃ r', FR S w κ r r' ∧ (∀ w', (Instr.findAsking kt kv es' i).run P w' = .ok r' w') ∧
      (∀ desc s, P.underlying kt = some desc → Instr.findNow desc kv es' i = some s → s = r')
  | [], [], i, r, _, hf => by
    simp only [findKey, Option.some.injEq] at hf
    subst hf
    exact ⟨none, trivial, fun w' => by simp [Instr.findAsking], fun desc s _ hs => by simpa [Instr.findNow] using hs.symm⟩
  | [], _ :: _, _, _, h, _ => h.elim
  | _ :: _, [], _, _, h, _ => h.elim
  | e :: es, e' :: es', i, r, hm, hf => by
    obtain ⟨m1, m2, m3, m4⟩ := hm
    unfold findKey at hf
    split at hf
    · rename_i he
      cases hf
      refine ⟨some (i, e'.val), ⟨rfl, m2⟩, fun w' => ?_, fun desc s hd hs => ?_⟩
      · simp [Instr.findAsking, Op.equal, eqdV_sound 20 kt ks hk _ _ _ _ _ hkv m1 he Op.maxDepth w' (by decide)]
      · unfold Instr.findNow at hs
        split at hs
        · cases hs; rfl
        · rename_i hs'; exact absurd (sameNow_sound hk hd hkv m1 he hs') (by simp)
        · cases hs
    · rename_i he
      obtain ⟨r', k1, k2, k3⟩ := findKey_sound hk hkv es es' (i + 1) r m4 hf
      refine ⟨r', k1, fun w' => ?_, fun desc s hd hs => ?_⟩
      · simp [Instr.findAsking, Op.equal, eqdV_sound 20 kt ks hk _ _ _ _ _ hkv m1 he Op.maxDepth w' (by decide), k2]
      · unfold Instr.findNow at hs
        split at hs
        · rename_i hs'; exact absurd (sameNow_sound hk hd hkv m1 he hs') (by simp)
        · exact k3 desc s hd hs
        · cases hs
    · cases hf

theorem findKey_run {kt : TypeId} {ks : Eqd} (hk : eqD P 20 kt = some ks) {k : V} {kv : Value} (hkv : RV S w κ k kv) {es : List (V × V × Nat)} {es' : List MapEntry} {r : Option (Nat × V)}
    (hm : ME S w κ es es') (hf : findKey ks k es 0 = some r) : ∃ r', FR S w κ r r' ∧ ∀ w', (Instr.findKey kt kv es').run P w' = .ok r' w' := by
  obtain ⟨r', k1, k2, k3⟩ := findKey_sound hk hkv es es' 0 r hm hf
  refine ⟨r', k1, fun w' => ?_⟩
  have hd : ∃ desc, P.underlying kt = some desc := by
    cases h : P.underlying kt with
    | none => simp [eqD, h] at hk
    | some d => exact ⟨d, rfl⟩
  obtain ⟨desc, hd⟩ := hd
  simp only [Instr.findKey, Sem.run_bind, run_underlying hd, Result.andThen_ok]
  cases hn : Instr.findNow desc kv es' 0 with
  | none => exact k2 w'
  | some s => simp only [Sem.run_pure]; rw [k3 desc s hd hn]
/-! ### The operations on maps -/
theorem ME_get : ∀ {es : List (V × V × Nat)} {es' : List MapEntry}, ME S w κ es es' → ∀ {i : Nat} {e : V × V × Nat}, es[i]? = some e →
    ∃ e', es'[i]? = some e' ∧ RV S w κ e.1 e'.key ∧ RV S w κ e.2.1 e'.val ∧ e.2.2 = e'.born
  | [], [], _, i, e, h => by simp at h
  | [], _ :: _, h, _, _, _ => h.elim
  | _ :: _, [], h, _, _, _ => h.elim
  | x :: es, y :: es', h, i, e, hi => by
    cases i with
    | zero => simp at hi; subst hi; exact ⟨y, rfl, h.1, h.2.1, h.2.2.1⟩
    | succ i => simp at hi; simpa using ME_get h.2.2.2 hi

theorem ME_append : ∀ {es : List (V × V × Nat)} {es' : List MapEntry} {fs : List (V × V × Nat)} {fs' : List MapEntry}, ME S w κ es es' → ME S w κ fs fs' → ME S w κ (es ++ fs) (es' ++ fs')
  | [], [], _, _, _, h => h
  | [], _ :: _, _, _, h, _ => h.elim
  | _ :: _, [], _, _, h, _ => h.elim
  | x :: es, y :: es', fs, fs', h, k => ⟨h.1, h.2.1, h.2.2.1, ME_append h.2.2.2 k⟩

theorem ME_modify (f : V × V × Nat → V × V × Nat) (g : MapEntry → MapEntry) : ∀ {es : List (V × V × Nat)} {es' : List MapEntry} (i : Nat), ME S w κ es es' →
    (∀ e e', es[i]? = some e → es'[i]? = some e' → RV S w κ (f e).1 (g e').key ∧ RV S w κ (f e).2.1 (g e').val ∧ (f e).2.2 = (g e').born) → ME S w κ (es.modify i f) (es'.modify i g)
  | [], [], i, _, _ => by simp [ME]
  | [], _ :: _, _, h, _ => h.elim
  | _ :: _, [], _, h, _ => h.elim
  | x :: es, y :: es', i, h, hf => by
    cases i with
    | zero =>
      obtain ⟨a, b, c⟩ := hf x y rfl rfl
      simpa [ME] using ⟨a, b, c, h.2.2.2⟩
    | succ i =>
      simp only [List.modify_succ_cons, ME]
      exact ⟨h.1, h.2.1, h.2.2.1, ME_modify f g i h.2.2.2 (fun e e' he he' => hf e e' (by simpa using he) (by simpa using he'))⟩

theorem ME_erase : ∀ {es : List (V × V × Nat)} {es' : List MapEntry} (i : Nat), ME S w κ es es' → ME S w κ (es.eraseIdx i) (es'.eraseIdx i)
  | [], [], i, _ => by simp [ME]
  | [], _ :: _, _, h => h.elim
  | _ :: _, [], _, h => h.elim
  | x :: es, y :: es', i, h => by
    cases i with
    | zero => simpa using h.2.2.2
    | succ i => simp only [List.eraseIdx_cons_succ, ME]; exact ⟨h.1, h.2.1, h.2.2.1, ME_erase i h.2.2.2⟩

theorem keyOk_run {kt : TypeId} {ks : Eqd} (hk : eqD P 20 kt = some ks) {k : V} {kv : Value} (hkv : RV S w κ k kv) (hok : keyOk ks k = true) (empty : Bool) (w' : World) :
    (Instr.checkKey empty 10000 kt kv).run P w' = .ok () w' := by
  unfold keyOk at hok
  cases h : eqdV ks k k with
  | none => rw [h] at hok; simp at hok
  | some r => exact checkKey_sound 20 kt ks hk k kv r hkv h empty 10000 w' (by decide)

theorem look_run {t kt e : TypeId} {z : Value} (ht : P.underlying t = some (.map kt e)) (hz : (zeroValue e).run P w = .ok z w) {mv kv : Value} {es' : List MapEntry} {ok : Bool}
    (hm : (mv = .map none ∧ es' = []) ∨ ∃ b a c, mv = .map (some b) ∧ w.heap[b]? = some (.map a c) ∧ a.toList = es')
    (hck : ∀ empty, (Instr.checkKey empty 10000 kt kv).run P w = .ok () w) {r' : Option (Nat × Value)} (hf : (Instr.findKey kt kv es').run P w = .ok r' w) :
    (Instr.lookup t mv kv ok).run P w = .ok (match r' with
      | some (_, v) => if ok then .tuple #[v, .bool true] else v
      | none => if ok then .tuple #[z, .bool false] else z) w := by
  rcases hm with ⟨rfl, rfl⟩ | ⟨b, a, c, rfl, hb, rfl⟩
  · simp only [Instr.lookup, Sem.run_bind, run_underlying ht, Result.andThen_ok, Sem.run_pure, hck, hf]
    cases r' with
    | none => simp only [Sem.run_bind, hz, Result.andThen_ok, Sem.run_pure] <;> cases ok <;> rfl
    | some p => obtain ⟨i, v⟩ := p; simp only [Sem.run_pure, Result.andThen_ok] <;> cases ok <;> rfl
  · simp only [Instr.lookup, Sem.run_bind, run_underlying ht, Result.andThen_ok, Sem.run_pure, getObj_map hb, hck, hf]
    cases r' with
    | none => simp only [Sem.run_bind, hz, Result.andThen_ok, Sem.run_pure] <;> cases ok <;> rfl
    | some p => obtain ⟨i, v⟩ := p; simp only [Sem.run_pure, Result.andThen_ok] <;> cases ok <;> rfl

theorem look_sound (inv : Inv P B S w κ h) {t kt e : TypeId} {ks : Eqd} {ok : Bool} {z : V} (ht : P.underlying t = some (.map kt e)) (hk : eqD P 20 kt = some ks) (hz : zeroT P e = some z)
    {m k x : V} {mv kv : Value} {h' : Heap} (hm : RV S w κ m mv) (hkv : RV S w κ k kv) (hh : evLook h ks ok z m k = some (x, h')) :
    h' = h ∧ ∃ v, RV S w κ x v ∧ (Instr.lookup t mv kv ok).run P w = .ok v w := by
  obtain ⟨zv, hzv, hzr⟩ := zeroT_run hz
  have hzs := ofConst_sound (S := S) (w := w) (κ := κ) hzv
  unfold evLook at hh
  obtain ⟨hok, h1⟩ := ite_some' hh
  have fnd : ∀ {v : V} {b : Bool} {u : Value}, found ok v b h = some (x, h') → RV S w κ v u → h' = h ∧ RV S w κ x (if ok then .tuple #[u, .bool b] else u) := by
    intro v b u hf hv
    unfold found at hf
    cases ok with
    | true =>
      simp only [if_true, Option.some.injEq, Prod.mk.injEq] at hf
      obtain ⟨rfl, rfl⟩ := hf
      refine ⟨rfl, ?_⟩
      simp only [if_true, RV]
      exact ⟨_, rfl, by simp [RL, RV, hv]⟩
    | false =>
      simp only [Bool.false_eq_true, if_false, Option.some.injEq, Prod.mk.injEq] at hf
      obtain ⟨rfl, rfl⟩ := hf
      exact ⟨rfl, by simpa using hv⟩
  split at h1
  · simp only [RV] at hm
    obtain ⟨e1, e2⟩ := fnd h1 hzs
    refine ⟨e1, _, e2, ?_⟩
    obtain ⟨r', k1, k2⟩ := findKey_run (es := []) (es' := []) (r := none) hk hkv trivial rfl
    cases r' with
    | some p => exact k1.elim
    | none =>
      rw [look_run ht (hzr w) (.inl ⟨hm, rfl⟩) (fun em => keyOk_run hk hkv hok em w) (k2 w)]
  · rename_i id
    split at h1
    · rename_i es clock hi
      obtain ⟨b, es', rfl, g1, g2, g3⟩ := map_obj inv hi hm
      split at h1
      · rename_i i v hf
        obtain ⟨r', k1, k2⟩ := findKey_run hk hkv g3 hf
        cases r' with
        | none => exact k1.elim
        | some p =>
          obtain ⟨j, u⟩ := p
          obtain ⟨rfl, hv⟩ := k1
          obtain ⟨e1, e2⟩ := fnd h1 hv
          exact ⟨e1, _, e2, look_run ht (hzr w) (.inr ⟨b, es', clock, rfl, g2, rfl⟩) (fun em => keyOk_run hk hkv hok em w) (k2 w)⟩
      · rename_i hf
        obtain ⟨r', k1, k2⟩ := findKey_run hk hkv g3 hf
        cases r' with
        | some p => exact k1.elim
        | none =>
          obtain ⟨e1, e2⟩ := fnd h1 hzs
          exact ⟨e1, _, e2, look_run ht (hzr w) (.inr ⟨b, es', clock, rfl, g2, rfl⟩) (fun em => keyOk_run hk hkv hok em w) (k2 w)⟩
      · cases h1
    · cases h1
  · cases h1
end
end Go.Ev

namespace Go.Ev
open Go.RowKit
set_option linter.unusedVariables false
set_option linter.unusedSectionVars false
set_option linter.unusedSimpArgs false

section
variable {P : Program} {B : Nat} {S : Cells} {w : World} {κ : Kap} {h : Heap}

theorem setObj_map {b : Nat} {es : Array MapEntry} {clock : Nat} (hb : w.heap[b]? = some (.map es clock)) (o : Obj) : (setObj b o).run P w = .ok () (World.withBlock w b o) := by
  simp [setObj, Sem.run, hb, World.withBlock]

theorem cell?_map {b : Nat} {es : Array MapEntry} {clock : Nat} (hb : w.heap[b]? = some (.map es clock)) (o : Nat) : w.cell? ⟨b, o, none⟩ = none := by
  simp [World.cell?, hb]

/-- A map is written. -/
theorem map_write (inv : Inv P B S w κ h) {id b : Nat} {es' : Array MapEntry} {clock clock' : Nat} (h1 : κ id = some (.blk b)) (h2 : w.heap[b]? = some (.map es' clock))
    {fs : List (V × V × Nat)} {fs' : Array MapEntry} (hm : ME S w κ fs fs'.toList) :
    Inv P B S (World.withBlock w b (.map fs' clock')) (upd κ id (.blk b)) (h.set id (.map fs clock')) ∧ Stp B S w κ S (World.withBlock w b (.map fs' clock')) (upd κ id (.blk b)) := by
  have hb := (Array.getElem?_eq_some_iff.1 h2).1
  exact Inv.write inv h1 (.map fs' clock') (.blk b) (.refl _) rfl (.map fs clock') (fun o _ => by
    show (World.withBlock w b _).cell? ⟨b, o, none⟩ = w.cell? ⟨b, o, none⟩
    rw [cell?_map h2, cell?_map (withBlock_same w b _ hb)]) (fun sle kle => ⟨b, fs', upd_same _ _ _, withBlock_same _ _ _ hb, ME.mono sle kle _ _ hm⟩)

theorem scalar_bits {x : V} {u v : Value} (hx : x.scalar = true) (hu : RV S w κ x u) (hv : RV S w κ x v) (n : Nat) : Instr.sameBits n u v = true := by
  cases x <;> simp [V.scalar] at hx <;> simp only [RV] at hu hv <;> subst hu <;> subst hv <;> simp [Instr.sameBits, beq_toListBytes]

theorem cells_bits (n : Nat) : ∀ {xs : List V} {us vs : List Value}, xs.all V.scalar = true → RL S w κ xs us → RL S w κ xs vs → (us.zip vs).all (fun p => Instr.sameBits n p.1 p.2) = true
  | [], [], [], _, _, _ => rfl
  | [], _ :: _, _, _, h, _ => by simp [RL] at h
  | [], _, _ :: _, _, _, h => by simp [RL] at h
  | _ :: _, [], _, _, h, _ => by simp [RL] at h
  | _ :: _, _, [], _, _, h => by simp [RL] at h
  | x :: xs, u :: us, v :: vs, hx, hu, hv => by
    simp only [List.all_cons, Bool.and_eq_true] at hx
    simp only [RL] at hu hv
    simp only [List.zip_cons_cons, List.all_cons, Bool.and_eq_true]
    exact ⟨scalar_bits hx.1 hu.1 hv.1 n, cells_bits n hx.2 hu.2 hv.2⟩

theorem key_bits {x : V} {u v : Value} (hx : x.cells.all V.scalar = true) (hu : RV S w κ x u) (hv : RV S w κ x v) : Instr.sameBits 10000 u v = true := by
  cases x with
  | agg cs =>
    simp only [RV] at hu hv
    obtain ⟨a, rfl, hu⟩ := hu
    obtain ⟨c, rfl, hv⟩ := hv
    have h1 := RL_length hu
    have h2 := RL_length hv
    simp only [Array.length_toList] at h1 h2
    have h3 := cells_bits 9999 (S := S) (w := w) (κ := κ) (by simpa [V.cells] using hx) hu hv
    have h4 : a.size = c.size := by omega
    simp only [Instr.sameBits, h4, beq_self_eq_true, Bool.true_and]
    exact h3
  | bool b => exact scalar_bits rfl hu hv _
  | int k n => exact scalar_bits rfl hu hv _
  | str s => exact scalar_bits rfl hu hv _
  | _ => simp [V.cells, V.scalar] at hx

theorem stays_run {old new : Value} (hs : Instr.sameBits 10000 old new = true) (w' : World) : (Instr.keyThatStays old new).run P w' = .ok new w' := by
  simp [Instr.keyThatStays, hs]

theorem sameKey_some {k : V} {es : List (V × V × Nat)} {i : Nat} (hh : sameKey k es i = true) : ∃ e, es[i]? = some e ∧ e.1 = k ∧ k.cells.all V.scalar = true := by
  unfold sameKey at hh
  split at hh
  · rename_i e he
    simp only [Bool.and_eq_true] at hh
    exact ⟨e, he, V.beq_eq _ _ hh.1, hh.2⟩
  · cases hh

theorem mapup_sound (inv : Inv P B S w κ h) {t kt e : TypeId} {ks : Eqd} (ht : P.underlying t = some (.map kt e)) (hk : eqD P 20 kt = some ks)
    {m k x z : V} {mv kv xv : Value} {h' : Heap} (hm : RV S w κ m mv) (hkv : RV S w κ k kv) (hx : RV S w κ x xv) (hh : evMapup h ks m k x = some (z, h')) :
    z = V.non ∧ ∃ w' S' κ', (Instr.mapUpdate t mv kv xv).run P w = .ok () w' ∧ Inv P B S' w' κ' h' ∧ Stp B S w κ S' w' κ' := by
  unfold evMapup at hh
  obtain ⟨hok, h1⟩ := ite_some' hh
  split at h1
  · rename_i id
    split at h1
    · rename_i es clock hi
      obtain ⟨b, es', rfl, g1, g2, g3⟩ := map_obj inv hi hm
      split at h1
      · rename_i i v hf
        obtain ⟨hsk, h2⟩ := ite_some' h1
        simp only [setOb_eq, Option.some.injEq, Prod.mk.injEq] at h2
        obtain ⟨rfl, rfl⟩ := h2
        obtain ⟨r', k1, k2⟩ := findKey_run hk hkv g3 hf
        cases r' with
        | none => exact k1.elim
        | some p =>
          obtain ⟨j, u⟩ := p
          obtain ⟨rfl, hv⟩ := k1
          obtain ⟨e0, he0, rfl, hsc⟩ := sameKey_some hsk
          obtain ⟨e0', he0', q1, q2, q3⟩ := ME_get g3 he0
          have hb := key_bits hsc q1 hkv
          have hget : es'[i]? = some e0' := by simpa using he0'
          obtain ⟨g4, g5⟩ := map_write inv (clock' := clock) g1 g2 (fs := es.modify i fun e => (e0.1, x, e.2.2)) (fs' := es'.modify i fun e => { e with key := kv, val := xv }) (by
            rw [Array.toList_modify]
            exact ME_modify _ _ i g3 (fun a a' ha ha' => by
              rw [he0] at ha; cases ha
              rw [he0'] at ha'; cases ha'
              exact ⟨hkv, hx, q3⟩))
          refine ⟨rfl, _, _, _, ?_, g4, g5⟩
          simp only [Instr.mapUpdate, Sem.run_bind, run_underlying ht, Result.andThen_ok, getObj_map g2, keyOk_run hk hkv hok, k2, hget, Option.map_some, Option.getD_some, stays_run hb, setObj_map g2]
      · rename_i hf
        simp only [setOb_eq, Option.some.injEq, Prod.mk.injEq] at h1
        obtain ⟨rfl, rfl⟩ := h1
        obtain ⟨r', k1, k2⟩ := findKey_run hk hkv g3 hf
        cases r' with
        | some p => exact k1.elim
        | none =>
          obtain ⟨g4, g5⟩ := map_write inv (clock' := clock + 1) g1 g2 (fs := es ++ [(k, x, clock)]) (fs' := es'.push { key := kv, val := xv, born := clock }) (by
            rw [Array.toList_push]
            exact ME_append g3 ⟨hkv, hx, rfl, trivial⟩)
          refine ⟨rfl, _, _, _, ?_, g4, g5⟩
          simp only [Instr.mapUpdate, Sem.run_bind, run_underlying ht, Result.andThen_ok, getObj_map g2, keyOk_run hk hkv hok, k2, setObj_map g2]
      · cases h1
    · cases h1
  · cases h1

theorem mapent_sound (inv : Inv P B S w κ h) {t kt e : TypeId} {ks : Eqd} {z0 : V} (ht : P.underlying t = some (.map kt e)) (hk : eqD P 20 kt = some ks) (hz : zeroT P e = some z0)
    {m k z : V} {mv kv : Value} {h' : Heap} (hm : RV S w κ m mv) (hkv : RV S w κ k kv) (hh : evMapent h ks z0 m k = some (z, h')) :
    ∃ r w' S' κ', (Instr.mapEntry t mv kv).run P w = .ok r w' ∧ Inv P B S' w' κ' h' ∧ Stp B S w κ S' w' κ' ∧ RV S' w' κ' z r := by
  obtain ⟨zv, hzv, hzr⟩ := zeroT_run hz
  have hzs := ofConst_sound (S := S) (w := w) (κ := κ) hzv
  unfold evMapent at hh
  obtain ⟨hok, h1⟩ := ite_some' hh
  split at h1
  · rename_i id
    split at h1
    · rename_i es clock hi
      obtain ⟨b, es', rfl, g1, g2, g3⟩ := map_obj inv hi hm
      split at h1
      · rename_i i v hf
        obtain ⟨hsk, h2⟩ := ite_some' h1
        simp only [fNat_eq, setOb_eq, Option.some.injEq, Prod.mk.injEq] at h2
        obtain ⟨rfl, rfl⟩ := h2
        obtain ⟨r', k1, k2⟩ := findKey_run hk hkv g3 hf
        cases r' with
        | none => exact k1.elim
        | some p =>
          obtain ⟨j, u⟩ := p
          obtain ⟨rfl, hv⟩ := k1
          obtain ⟨e0, he0, rfl, hsc⟩ := sameKey_some hsk
          obtain ⟨e0', he0', q1, q2, q3⟩ := ME_get g3 he0
          have hb := key_bits hsc q1 hkv
          have hget : es'[i]? = some e0' := by simpa using he0'
          obtain ⟨g4, g5⟩ := map_write inv (clock' := clock) g1 g2 (fs := es.modify i fun e => (e0.1, e.2)) (fs' := es'.modify i fun e => { e with key := kv }) (by
            rw [Array.toList_modify]
            exact ME_modify _ _ i g3 (fun a a' ha ha' => by
              rw [he0] at ha; cases ha
              rw [he0'] at ha'; cases ha'
              exact ⟨hkv, q2, q3⟩))
          refine ⟨.tuple #[u, goInt e0'.born], _, _, _, ?_, g4, g5, ?_⟩
          · simp only [Instr.mapEntry, Sem.run_bind, run_underlying ht, Result.andThen_ok, getObj_map g2, keyOk_run hk hkv hok, k2, hget, Option.map_some, Option.getD_some, stays_run hb, setObj_map g2, Sem.run_pure]
          · simp only [RV]
            refine ⟨_, rfl, ?_⟩
            simp only [RL, RV, he0, Option.map_some, Option.getD_some, and_true]
            exact ⟨RV.mono g5.sle g5.kle _ _ hv, by simp [goInt, q3]⟩
      · rename_i hf
        simp only [fNat_eq, setOb_eq, Option.some.injEq, Prod.mk.injEq] at h1
        obtain ⟨rfl, rfl⟩ := h1
        obtain ⟨r', k1, k2⟩ := findKey_run hk hkv g3 hf
        cases r' with
        | some p => exact k1.elim
        | none =>
          obtain ⟨g4, g5⟩ := map_write inv (clock' := clock + 1) g1 g2 (fs := es ++ [(k, z0, clock)]) (fs' := es'.push { key := kv, val := zv, born := clock }) (by
            rw [Array.toList_push]
            exact ME_append g3 ⟨hkv, hzs, rfl, trivial⟩)
          refine ⟨.tuple #[zv, goInt clock], _, _, _, ?_, g4, g5, ?_⟩
          · simp only [Instr.mapEntry, Sem.run_bind, run_underlying ht, Result.andThen_ok, getObj_map g2, keyOk_run hk hkv hok, k2, hzr, setObj_map g2, Sem.run_pure]
          · simp only [RV]
            refine ⟨_, rfl, ?_⟩
            simp only [RL, RV, and_true]
            exact ⟨RV.mono g5.sle g5.kle _ _ hzs, by simp [goInt]⟩
      · cases h1
    · cases h1
  · cases h1

theorem born_idx : ∀ {es : List (V × V × Nat)} {es' : List MapEntry}, ME S w κ es es' → ∀ (n : Int), es'.findIdx? (fun e => (e.born : Int) == n) = es.findIdx? (fun e => (e.2.2 : Int) == n)
  | [], [], _, n => rfl
  | [], _ :: _, h, _ => h.elim
  | _ :: _, [], h, _ => h.elim
  | x :: es, y :: es', h, n => by
    simp only [List.findIdx?_cons, h.2.2.1, born_idx h.2.2.2 n]

theorem entst_sound (inv : Inv P B S w κ h) {t : TypeId} {m s x z : V} {mv sv xv : Value} {h' : Heap} (hm : RV S w κ m mv) (hs : RV S w κ s sv) (hx : RV S w κ x xv) (hh : evEntst h m s x = some (z, h')) :
    z = V.non ∧ ∃ w' S' κ', (Instr.entryStore t mv sv xv).run P w = .ok () w' ∧ Inv P B S' w' κ' h' ∧ Stp B S w κ S' w' κ' := by
  unfold evEntst at hh
  split at hh
  · rename_i id
    split at hh
    · rename_i q n
      split at hh
      · rename_i es clock hi
        obtain ⟨b, es', rfl, g1, g2, g3⟩ := map_obj inv hi hm
        simp only [RV] at hs
        subst hs
        split at hh
        · rename_i i hfi
          simp only [setOb_eq, Option.some.injEq, Prod.mk.injEq] at hh
          obtain ⟨rfl, rfl⟩ := hh
          have hfi' : es'.findIdx? (fun e => (e.born : Int) == n) = some i := by
            have e1 : es'.findIdx? (fun e => (e.born : Int) == n) = es'.toList.findIdx? (fun e => (e.born : Int) == n) := by cases es'; simp
            rw [e1, born_idx g3 n, hfi]
          obtain ⟨g4, g5⟩ := map_write inv (clock' := clock) g1 g2 (fs := es.modify i fun e => (e.1, x, e.2.2)) (fs' := es'.modify i fun e => { e with val := xv }) (by
            rw [Array.toList_modify]
            exact ME_modify _ _ i g3 (fun a a' ha ha' => by
              obtain ⟨a'', ha'', q1, q2, q3⟩ := ME_get g3 ha
              rw [ha'] at ha''; cases ha''
              exact ⟨q1, hx, q3⟩))
          refine ⟨rfl, _, _, _, ?_, g4, g5⟩
          simp only [Instr.entryStore, Sem.run_bind, getObj_map g2, Result.andThen_ok, asInt, asIntOf, Sem.run_pure, hfi', setObj_map g2]
        · cases hh
      · cases hh
    · cases hh
  · cases hh

theorem del_sound (inv : Inv P B S w κ h) {t u T kt e : TypeId} {ks : Eqd} (ht : P.underlying t = some (.map kt e)) (hk : eqD P 20 kt = some ks)
    {m k z : V} {mv kv : Value} {h' : Heap} (hm : RV S w κ m mv) (hkv : RV S w κ k kv) (hh : evDel h ks m k = some (z, h')) :
    ∃ r w' S' κ', (Builtin.delete_ #[t, u] T #[mv, kv]).run P w = .ok r w' ∧ Inv P B S' w' κ' h' ∧ Stp B S w κ S' w' κ' ∧ RV S' w' κ' z r := by
  unfold evDel at hh
  obtain ⟨hok, h1⟩ := ite_some' hh
  split at h1
  · rename_i id
    split at h1
    · rename_i es clock hi
      obtain ⟨b, es', rfl, g1, g2, g3⟩ := map_obj inv hi hm
      have hb := (Array.getElem?_eq_some_iff.1 g2).1
      split at h1
      · rename_i i v hf
        simp only [setOb_eq, Option.some.injEq, Prod.mk.injEq] at h1
        obtain ⟨rfl, rfl⟩ := h1
        obtain ⟨r', k1, k2⟩ := findKey_run hk hkv g3 hf
        cases r' with
        | none => exact k1.elim
        | some p =>
          obtain ⟨j, u⟩ := p
          obtain ⟨rfl, hv⟩ := k1
          obtain ⟨g4, g5⟩ := map_write inv (clock' := clock) g1 g2 (fs := es.eraseIdx i) (fs' := es'.eraseIdxIfInBounds i) (by
            have : (es'.eraseIdxIfInBounds i).toList = es'.toList.eraseIdx i := by simp
            rw [this]
            exact ME_erase i g3)
          refine ⟨.tuple #[], _, _, _, ?_, g4, g5, by simp [RV, RL]⟩
          simp only [Builtin.delete_, List.getElem?_toArray, List.getElem?_cons_zero, List.getElem?_cons_succ, Sem.run_bind, run_underlying ht, Result.andThen_ok, getObj_map g2, keyOk_run hk hkv hok, k2, setObj_map g2, Sem.run_pure]
      · rename_i hf
        simp only [Option.some.injEq, Prod.mk.injEq] at h1
        obtain ⟨rfl, rfl⟩ := h1
        obtain ⟨r', k1, k2⟩ := findKey_run hk hkv g3 hf
        cases r' with
        | some p => exact k1.elim
        | none =>
          refine ⟨.tuple #[], w, S, κ, ?_, inv, .refl _ _ _ _, by simp [RV, RL]⟩
          simp only [Builtin.delete_, List.getElem?_toArray, List.getElem?_cons_zero, List.getElem?_cons_succ, Sem.run_bind, run_underlying ht, Result.andThen_ok, getObj_map g2, keyOk_run hk hkv hok, k2, setObj_map g2, Sem.run_pure]
          rw [withBlock_self w b _ g2]
      · cases h1
    · cases h1
  · cases h1

theorem mkm_sound (inv : Inv P B S w κ h) (t : TypeId) :
    ∃ r w' S' κ', (Instr.makeMap t none).run P w = .ok r w' ∧ Inv P B S' w' κ' (h ++ [.map [] 0]) ∧ Stp B S w κ S' w' κ' ∧ RV S' w' κ' (.map h.length) r := by
  have := Inv.fresh inv h.length (Nat.le_refl _) (.map #[] 0) (.blk w.heap.size) (fun k hk => by rw [noK_new inv] at hk; cases hk) rfl (h ++ [.map [] 0])
    (fun i o hi ho => by
      rw [List.getElem?_append] at ho
      split at ho
      · exact ho
      · rename_i hge
        rw [List.getElem?_eq_none (by simp; omega)] at ho
        cases ho)
    (by simp) (by simp) (fun sle kle o ho => by
      simp at ho
      subst ho
      exact ⟨w.heap.size, #[], upd_same _ _ _, alloc_last _ _, trivial⟩)
  exact ⟨.map (some w.heap.size), _, _, _, by simp [Instr.makeMap], this.1, this.2, by simp only [RV]; exact ⟨_, upd_same _ _ _, rfl⟩⟩
end
end Go.Ev

namespace Go.Ev
open Go.RowKit
set_option linter.unusedVariables false
set_option linter.unusedSectionVars false
set_option linter.unusedSimpArgs false

section
variable {P : Program} {B : Nat} {S : Cells} {w : World} {κ : Kap} {h : Heap}

theorem cOds_sound {env : List V} {a : Act} (hr : RL S w κ env a.tmps.toList) : ∀ (l : List Operand) (l' : List Od), cOds l = some l' → RL S w κ (evs env l') (l.map a.eval)
  | [], l', hh => by simp [cOds] at hh; subst hh; simp [evs, RL]
  | o :: l, l', hh => by
    simp only [cOds, List.mapM_cons, Option.bind_eq_bind, Option.bind_eq_some_iff, Option.pure_def, Option.some.injEq] at hh
    obtain ⟨d, hd, r, hr', rfl⟩ := hh
    simp only [evs, List.map_cons, RL]
    exact ⟨od_sound hr hd, cOds_sound hr l r hr'⟩

theorem cOds_cons {l : List Operand} {d : Od} {ds : List Od} (hh : cOds l = some (d :: ds)) : ∃ o r, l = o :: r ∧ cOd o = some d ∧ cOds r = some ds := by
  cases l with
  | nil => simp [cOds] at hh
  | cons o r =>
    simp only [cOds, List.mapM_cons, Option.bind_eq_bind, Option.bind_eq_some_iff, Option.pure_def, Option.some.injEq, List.cons.injEq] at hh
    obtain ⟨d', hd, r', hr', rfl, rfl⟩ := hh
    exact ⟨o, r, rfl, hd, hr'⟩
theorem cOds_nil {l : List Operand} (hh : cOds l = some []) : l = [] := by
  cases l with
  | nil => rfl
  | cons o r =>
    simp only [cOds, List.mapM_cons, Option.bind_eq_bind, Option.bind_eq_some_iff, Option.pure_def, Option.some.injEq] at hh
    obtain ⟨d', hd, r', hr', hc⟩ := hh
    cases hc

theorem arr1 {α : Type} {a : Array α} {x : α} (hh : a.toList = [x]) : a = #[x] := by cases a; simp_all
theorem arr2 {α : Type} {a : Array α} {x y : α} (hh : a.toList = [x, y]) : a = #[x, y] := by cases a; simp_all

theorem Good.val (inv : Inv P B S w κ h) {x : V} {s : Sem Value} {h' : Heap} (e : h' = h) (hs : ∃ v, RV S w κ x v ∧ ∀ w', s.run P w' = .ok v w') :
    Good P B S w κ h' x (do pure (.value (← s))) := by
  subst e
  exact Good.same inv (Same.of hs)

theorem Good.val' (inv : Inv P B S w κ h) {x : V} {s : Sem Value} {h' : Heap} (e : h' = h) (hs : ∃ v, RV S w κ x v ∧ s.run P w = .ok v w) :
    Good P B S w κ h' x (do pure (.value (← s))) := by
  subst e
  exact Good.here inv hs

theorem Good.skip {s : Sem Unit} {h' : Heap} {x : V} (hx : x = V.non) (hs : ∃ w' S' κ', s.run P w = .ok () w' ∧ Inv P B S' w' κ' h' ∧ Stp B S w κ S' w' κ') :
    Good P B S w κ h' x (do s; pure .skip) := by
  subst hx
  obtain ⟨w', S', κ', a, b, c⟩ := hs
  exact ⟨undef, w', S', κ', .inr ⟨rfl, by simp [a]⟩, b, c, RV_non⟩

theorem cB_len {ts : List TypeId} {args : List Od} {c : Cop} (hc : cBuiltin P .len ts args = some c) : ∃ t y, ts = [t] ∧ args = [y] ∧
    ((P.underlying t = some .string ∧ c = .len .s y) ∨ (∃ e, P.underlying t = some (.slice e) ∧ c = .len .l y) ∨ (∃ k e, P.underlying t = some (.map k e) ∧ c = .len .m y) ∨
     (∃ n e, P.underlying t = some (.array n e) ∧ c = .mov (.c (.int .i64 n))) ∨ (∃ p n e, P.underlying t = some (.pointer p) ∧ P.underlying p = some (.array n e) ∧ c = .mov (.c (.int .i64 n)))) := by
  rcases ts with _ | ⟨t, _ | ⟨t2, ts⟩⟩ <;> rcases args with _ | ⟨y, _ | ⟨y2, args⟩⟩ <;> simp only [cBuiltin, reduceCtorEq] at hc
  refine ⟨t, y, rfl, rfl, ?_⟩
  split at hc
  · rename_i ht; cases hc; exact .inl ⟨ht, rfl⟩
  · rename_i e ht; cases hc; exact .inr (.inl ⟨e, ht, rfl⟩)
  · rename_i k e ht; cases hc; exact .inr (.inr (.inl ⟨k, e, ht, rfl⟩))
  · rename_i n e ht; cases hc; exact .inr (.inr (.inr (.inl ⟨n, e, ht, rfl⟩)))
  · rename_i p ht
    split at hc
    · rename_i n e hp; cases hc; exact .inr (.inr (.inr (.inr ⟨p, n, e, ht, hp, rfl⟩)))
    · cases hc
  · cases hc

theorem cB_append {ts : List TypeId} {args : List Od} {c : Cop} (hc : cBuiltin P .append ts args = some c) : ∃ t u e d q s y, ts = [t, u] ∧ args = [s, y] ∧
    P.underlying t = some (.slice e) ∧ P.underlying u = some d ∧ (∀ k, d ≠ .int k) ∧ elemT P e = some q ∧ c = .app q.1 q.2.1 s y := by
  rcases ts with _ | ⟨t, _ | ⟨u, _ | ⟨t3, ts⟩⟩⟩ <;> rcases args with _ | ⟨y, _ | ⟨y2, _ | ⟨y3, args⟩⟩⟩ <;> simp only [cBuiltin, reduceCtorEq] at hc
  split at hc
  · rename_i e e2 h1 h2
    simp only [Option.map_eq_some_iff] at hc
    obtain ⟨q, hq, rfl⟩ := hc
    exact ⟨t, u, e, _, q, y, y2, rfl, rfl, h1, h2, by simp, hq, rfl⟩
  · rename_i e h1 h2
    simp only [Option.map_eq_some_iff] at hc
    obtain ⟨q, hq, rfl⟩ := hc
    exact ⟨t, u, e, _, q, y, y2, rfl, rfl, h1, h2, by simp, hq, rfl⟩
  · cases hc

theorem cB_copy {ts : List TypeId} {args : List Od} {c : Cop} (hc : cBuiltin P .copy ts args = some c) : ∃ t u e q s y, ts = [t, u] ∧ args = [s, y] ∧
    P.underlying t = some (.slice e) ∧ elemT P e = some q ∧ c = .copy q.1 s y := by
  rcases ts with _ | ⟨t, _ | ⟨u, _ | ⟨t3, ts⟩⟩⟩ <;> rcases args with _ | ⟨y, _ | ⟨y2, _ | ⟨y3, args⟩⟩⟩ <;> simp only [cBuiltin, reduceCtorEq] at hc
  split at hc
  · rename_i e e2 h1 h2
    simp only [Option.map_eq_some_iff] at hc
    obtain ⟨q, hq, rfl⟩ := hc
    exact ⟨t, u, e, q, y, y2, rfl, rfl, h1, hq, rfl⟩
  · rename_i e h1 h2
    simp only [Option.map_eq_some_iff] at hc
    obtain ⟨q, hq, rfl⟩ := hc
    exact ⟨t, u, e, q, y, y2, rfl, rfl, h1, hq, rfl⟩
  · cases hc

theorem cB_delete {ts : List TypeId} {args : List Od} {c : Cop} (hc : cBuiltin P .delete ts args = some c) : ∃ t u kt e ks s y, ts = [t, u] ∧ args = [s, y] ∧
    P.underlying t = some (.map kt e) ∧ eqD P 20 kt = some ks ∧ c = .del ks s y := by
  rcases ts with _ | ⟨t, _ | ⟨u, _ | ⟨t3, ts⟩⟩⟩ <;> rcases args with _ | ⟨y, _ | ⟨y2, _ | ⟨y3, args⟩⟩⟩ <;> simp only [cBuiltin, reduceCtorEq] at hc
  split at hc
  · rename_i kt e h1
    simp only [Option.map_eq_some_iff] at hc
    obtain ⟨q, hq, rfl⟩ := hc
    exact ⟨t, u, kt, e, q, y, y2, rfl, rfl, h1, hq, rfl⟩
  · cases hc

theorem cB_clear {ts : List TypeId} {args : List Od} {c : Cop} (hc : cBuiltin P .clear ts args = some c) : ∃ t e q y, ts = [t] ∧ args = [y] ∧
    P.underlying t = some (.slice e) ∧ elemT P e = some q ∧ c = .clr q.1 q.2.2 y := by
  rcases ts with _ | ⟨t, _ | ⟨t2, ts⟩⟩ <;> rcases args with _ | ⟨y, _ | ⟨y2, args⟩⟩ <;> simp only [cBuiltin, reduceCtorEq] at hc
  split at hc
  · rename_i e h1
    simp only [Option.map_eq_some_iff] at hc
    obtain ⟨q, hq, rfl⟩ := hc
    exact ⟨t, e, q, y, rfl, rfl, h1, hq, rfl⟩
  · cases hc

/-- Calls of builtins. -/
theorem builtin_sound (inv : Inv P B S w κ h) {env : List V} {a : Act} (hr : RL S w κ env a.tmps.toList) {o : Oper} {cl : Call} {b : Builtin} (ho : o.op = .call cl) (hb : cl.callee = .builtin b)
    {args : List Od} (ha : cOds cl.args.toList = some args) {c : Cop} (hc : cBuiltin P b cl.argTypes.toList args = some c) {x : V} {h' : Heap} (he : evOp env h c = some (x, h')) :
    Good P B S w κ h' x (execOp a.eval o) := by
  have hex : ∀ (s : Sem Next), (∀ consts, builtin b cl.argTypes o.type consts (cl.args.map a.eval) = s) → Good P B S w κ h' x s → Good P B S w κ h' x (execOp a.eval o) := by
    intro s hs hg
    have : execOp a.eval o = s := by
      simp only [execOp, ho, resolve, hb, pure_bind, invoke]
      exact hs _
    rw [this]
    exact hg
  have two : ∀ {s y : Od} {t u : TypeId}, cl.argTypes.toList = [t, u] → args = [s, y] → ∃ o1 o2, cl.args.map a.eval = #[a.eval o1, a.eval o2] ∧ cl.argTypes = #[t, u] ∧
      RV S w κ (s.ev env) (a.eval o1) ∧ RV S w κ (y.ev env) (a.eval o2) := by
    rintro s y t u ht rfl
    obtain ⟨o1, r, hl, h1, h2⟩ := cOds_cons ha
    obtain ⟨o2, r2, hl2, h3, h4⟩ := cOds_cons h2
    have := cOds_nil h4
    subst this
    subst hl2
    exact ⟨o1, o2, by rw [arr2 hl]; simp, arr2 ht, od_sound hr h1, od_sound hr h3⟩
  cases b
  case len =>
    obtain ⟨t, y, hts, rfl, hlen⟩ := cB_len hc
    clear hc
    obtain ⟨o1, r, hl, h1, h2⟩ := cOds_cons ha
    have := cOds_nil h2
    subst this
    have hy := od_sound hr h1
    refine hex (do pure (.value (← Builtin.len_ #[t] o.type #[a.eval o1]))) (fun consts => by rw [arr1 hts, arr1 hl]; simp [builtin]) ?_
    rcases hlen with ⟨ht, rfl⟩ | ⟨e, ht, rfl⟩ | ⟨k, e, ht, rfl⟩ | ⟨n, e, ht, rfl⟩ | ⟨p, n, e, ht, hp, rfl⟩
    · obtain ⟨n, g1, rfl, rfl⟩ := evLen_some he
      exact Good.val' inv rfl ⟨_, rfl, len_s ht hy g1⟩
    · obtain ⟨n, g1, rfl, rfl⟩ := evLen_some he
      exact Good.val' inv rfl ⟨_, rfl, len_l ht hy g1⟩
    · obtain ⟨n, g1, rfl, rfl⟩ := evLen_some he
      exact Good.val' inv rfl ⟨_, rfl, len_m inv ht hy g1⟩
    · simp only [evOp, Od.ev, Option.some.injEq, Prod.mk.injEq] at he
      obtain ⟨rfl, rfl⟩ := he
      exact Good.val' inv rfl ⟨_, rfl, by simp [Builtin.len_, run_underlying ht, goInt]⟩
    · simp only [evOp, Od.ev, Option.some.injEq, Prod.mk.injEq] at he
      obtain ⟨rfl, rfl⟩ := he
      exact Good.val' inv rfl ⟨_, rfl, by simp [Builtin.len_, run_underlying ht, run_underlying hp, goInt]⟩
  case max =>
    have hrl := cOds_sound hr _ _ ha
    have : c = .mx args := by
      unfold cBuiltin at hc; simpa using hc.symm
    subst this
    obtain ⟨e, hs⟩ := mx_sound (P := P) _ _ hrl he cl.argTypes o.type
    have e2 : (cl.args.toList.map a.eval).toArray = cl.args.map a.eval := by cases cl.args; simp
    rw [e2] at hs
    exact hex (do pure (.value (← Builtin.max_ cl.argTypes o.type (cl.args.map a.eval)))) (fun consts => by simp [builtin]) (Good.val inv e hs)
  case min =>
    have hrl := cOds_sound hr _ _ ha
    have : c = .mn args := by
      unfold cBuiltin at hc; simpa using hc.symm
    subst this
    obtain ⟨e, hs⟩ := mn_sound (P := P) _ _ hrl he cl.argTypes o.type
    have e2 : (cl.args.toList.map a.eval).toArray = cl.args.map a.eval := by cases cl.args; simp
    rw [e2] at hs
    exact hex (do pure (.value (← Builtin.min_ cl.argTypes o.type (cl.args.map a.eval)))) (fun consts => by simp [builtin]) (Good.val inv e hs)
  case append =>
    obtain ⟨t, u, e, d, q, s, y, hts, rfl, h1, h2, h3, h4, rfl⟩ := cB_append hc
    obtain ⟨o1, o2, hm, ht, r1, r2⟩ := two hts rfl
    exact hex (do pure (.value (← Builtin.append_ #[t, u] o.type #[a.eval o1, a.eval o2]))) (fun consts => by rw [hm, ht]; simp [builtin]) (Good.ret (app_sound inv h1 h2 h3 h4 r1 r2 he))
  case copy =>
    obtain ⟨t, u, e, q, s, y, hts, rfl, h1, h4, rfl⟩ := cB_copy hc
    obtain ⟨o1, o2, hm, ht, r1, r2⟩ := two hts rfl
    exact hex (do pure (.value (← Builtin.copy_ #[t, u] o.type #[a.eval o1, a.eval o2]))) (fun consts => by rw [hm, ht]; simp [builtin]) (Good.ret (copy_sound inv h1 h4 r1 r2 he))
  case delete =>
    obtain ⟨t, u, kt, e, ks, s, y, hts, rfl, h1, h4, rfl⟩ := cB_delete hc
    obtain ⟨o1, o2, hm, ht, r1, r2⟩ := two hts rfl
    exact hex (do pure (.value (← Builtin.delete_ #[t, u] o.type #[a.eval o1, a.eval o2]))) (fun consts => by rw [hm, ht]; simp [builtin]) (Good.ret (del_sound inv h1 h4 r1 r2 he))
  case clear =>
    obtain ⟨t, e, q, y, hts, rfl, h1, h4, rfl⟩ := cB_clear hc
    obtain ⟨o1, r, hl, g1, g2⟩ := cOds_cons ha
    have := cOds_nil g2
    subst this
    exact hex (do pure (.value (← Builtin.clear_ #[t] o.type #[a.eval o1]))) (fun consts => by rw [arr1 hts, arr1 hl]; simp [builtin]) (Good.ret (clr_sound inv h1 h4 (od_sound hr g1) he))
  all_goals (exfalso; unfold cBuiltin at hc; simp at hc)
end
end Go.Ev

namespace Go.Ev
open Go.RowKit
set_option linter.unusedVariables false
set_option linter.unusedSectionVars false
set_option linter.unusedSimpArgs false

section
variable {P : Program} {B : Nat} {S : Cells} {w : World} {κ : Kap} {h : Heap}

theorem Same.exec {x : V} {o : Oper} {a : Act} {s : Sem Value} (hs : execOp a.eval o = (do pure (.value (← s)))) (hh : ∃ v, RV S w κ x v ∧ ∀ w', s.run P w' = .ok v w') :
    Same P S w κ x (execOp a.eval o) := by rw [hs]; exact Same.of hh

theorem binop_same {op : BinOp} {t : TypeId} {px py : Operand} {x y z : V} {u v : Value} (hx : RV S w κ x u) (hy : RV S w κ y v) (hh : binV op x y = some z) :
    ∃ r, RV S w κ z r ∧ ∀ w', (do eqGuard op t px py u v; binOp op t u v : Sem Value).run P w' = .ok r w' := by
  obtain ⟨r, h1, h2⟩ := binV_sound (P := P) (t := t) hx hy hh
  refine ⟨r, h1, fun w' => ?_⟩
  have : u ≠ .nilIface ∧ ∀ c, u ≠ .agg c := by
    unfold binV at hh
    split at hh
    · simp only [RV] at hx; subst hx; simp
    · simp only [RV] at hx; subst hx; simp
    · cases hh
  simp [eqGuard_ok (P := P) (op := op) (t := t) (x := px) (y := py) (u := u) (v := v) this.1 this.2 w', h2 w']

theorem cBin_pure {op : BinOp} {t : TypeId} {x y : Od} {c : Cop} (hc : cBin P op t x y = some c) (hp : pureOp c = true) : c = .bin op x y := by
  unfold cBin at hc
  split at hc
  · split at hc
    all_goals first
      | (cases hc; rfl)
      | (split at hc
         · cases hc
         · simp only [Option.map_eq_some_iff] at hc
           obtain ⟨q, _, rfl⟩ := hc
           simp [pureOp] at hp)
      | (cases hc; simp [pureOp] at hp)
      | cases hc
  · cases hc; rfl

theorem cB_pure {b : Builtin} {ts : List TypeId} {args : List Od} {c : Cop} (hc : cBuiltin P b ts args = some c) (hp : pureOp c = true) :
    ∃ t y, ∃ n : Nat, b = .len ∧ ts = [t] ∧ args = [y] ∧ c = .mov (.c (.int .i64 n)) ∧ ((∃ e, P.underlying t = some (.array n e)) ∨ ∃ p e, P.underlying t = some (.pointer p) ∧ P.underlying p = some (.array n e)) := by
  cases b
  case len =>
    obtain ⟨t, y, h1, h2, hlen⟩ := cB_len hc
    rcases hlen with ⟨ht, rfl⟩ | ⟨e, ht, rfl⟩ | ⟨k, e, ht, rfl⟩ | ⟨n, e, ht, rfl⟩ | ⟨p, n, e, ht, hq, rfl⟩
    · simp [pureOp] at hp
    · simp [pureOp] at hp
    · simp [pureOp] at hp
    · exact ⟨t, y, n, rfl, h1, h2, rfl, .inl ⟨e, ht⟩⟩
    · exact ⟨t, y, n, rfl, h1, h2, rfl, .inr ⟨p, e, ht, hq⟩⟩
  case max => unfold cBuiltin at hc; simp at hc; subst hc; simp [pureOp] at hp
  case min => unfold cBuiltin at hc; simp at hc; subst hc; simp [pureOp] at hp
  case append =>
    obtain ⟨t, u, e, d, q, s, y, hts, rfl, h1, h2, h3, h4, rfl⟩ := cB_append hc
    simp [pureOp] at hp
  case copy =>
    obtain ⟨t, u, e, q, s, y, hts, rfl, h1, h4, rfl⟩ := cB_copy hc
    simp [pureOp] at hp
  case delete =>
    obtain ⟨t, u, kt, e, ks, s, y, hts, rfl, h1, h4, rfl⟩ := cB_delete hc
    simp [pureOp] at hp
  case clear =>
    obtain ⟨t, e, q, y, hts, rfl, h1, h4, rfl⟩ := cB_clear hc
    simp [pureOp] at hp
  all_goals (exfalso; unfold cBuiltin at hc; simp at hc)

theorem mki_run {t : TypeId} {d : TypeDesc} (ht : P.underlying t = some d) (hd : ∀ m, d ≠ .interface m) (v : Value) (w' : World) : (Instr.makeInterface t v).run P w' = .ok (.iface t v) w' := by
  unfold Instr.makeInterface
  simp [run_underlying ht]

theorem optOd_sound' {env : List V} {a : Act} (hr : RL S w κ env a.tmps.toList) {o : Option Operand} {d : Option Od} (h : optOd o = some d) : RO S w κ (d.map (·.ev env)) (o.map a.eval) := by
  cases o with
  | none =>
    simp only [optOd, Option.some.injEq] at h
    subst h
    trivial
  | some x =>
    simp only [optOd, Option.map_eq_some_iff] at h
    obtain ⟨y, hy, rfl⟩ := h
    exact od_sound hr hy

/-- Pure operations. -/
theorem op_pure (inv : Inv P B S w κ h) {env : List V} {a : Act} (hr : RL S w κ env a.tmps.toList) {o : Oper} {c : Cop} (hc : cOp P o = some c) (hp : pureOp c = true)
    {x : V} {h' : Heap} (he : evOp env h c = some (x, h')) : h' = h ∧ Same P S w κ x (execOp a.eval o) := by
  unfold cOp at hc
  split at hc
  case h_1 y ho =>
    simp only [Option.map_eq_some_iff] at hc
    obtain ⟨d, hd, rfl⟩ := hc
    simp only [evOp, Option.some.injEq, Prod.mk.injEq] at he
    obtain ⟨rfl, rfl⟩ := he
    exact ⟨rfl, _, od_sound hr hd, fun w' => by simp [execOp, ho]⟩
  case h_2 y ho =>
    simp only [Option.map_eq_some_iff] at hc
    obtain ⟨d, hd, rfl⟩ := hc
    simp only [evOp, Option.some.injEq, Prod.mk.injEq] at he
    obtain ⟨rfl, rfl⟩ := he
    exact ⟨rfl, _, od_sound hr hd, fun w' => by simp [execOp, ho]⟩
  case h_3 y z1 z2 ho =>
    split at hc
    · rename_i d e f hd he' hf
      cases hc
      simp only [evOp, evPick] at he
      split at he
      · rename_i b hb
        have h1 := od_sound hr hd
        rw [hb] at h1
        simp only [RV] at h1
        split at he
        · rename_i hb; subst hb; cases he
          exact ⟨rfl, _, od_sound hr he', fun w' => by simp [execOp, ho, h1, asBool]⟩
        · rename_i hb; simp at hb; subst hb; cases he
          exact ⟨rfl, _, od_sound hr hf, fun w' => by simp [execOp, ho, h1, asBool]⟩
      · cases he
    · cases hc
  case h_4 => simp only [Option.map_eq_some_iff] at hc; obtain ⟨d, hd, rfl⟩ := hc; simp [pureOp] at hp
  case h_5 => simp only [Option.map_eq_some_iff] at hc; obtain ⟨d, hd, rfl⟩ := hc; simp [pureOp] at hp
  case h_6 t parts ho =>
    split at hc
    · rename_i fs z ht hz
      split at hc
      · cases hc
      · rename_i hf
        simp only [Option.map_eq_some_iff] at hc
        obtain ⟨l, hl, rfl⟩ := hc
        simp only [evOp] at he
        obtain ⟨e, hs⟩ := build_struct_sound hr ht hz (by simpa [Option.isSome_iff_ne_none] using hf) hl he
        exact ⟨e, Same.exec (by simp [execOp, ho]) hs⟩
    · rename_i n e z ht hz
      simp only [Option.bind_eq_some_iff, Option.map_eq_some_iff] at hc
      obtain ⟨s, hs, l, hl, rfl⟩ := hc
      simp only [evOp] at he
      obtain ⟨e, hs⟩ := build_array_sound hr ht hz hs hl he
      exact ⟨e, Same.exec (by simp [execOp, ho]) hs⟩
    · cases hc
  case h_7 =>
    split at hc
    · split at hc
      · split at hc
        · cases hc
        · simp only [Option.map_eq_some_iff] at hc; obtain ⟨d, hd, rfl⟩ := hc; simp [pureOp] at hp
      · cases hc
    · cases hc
  case h_8 => split at hc <;> cases hc; simp [pureOp] at hp
  case h_9 => split at hc <;> cases hc; simp [pureOp] at hp
  case h_10 y ho =>
    simp only [Option.map_eq_some_iff] at hc
    obtain ⟨d, hd, rfl⟩ := hc
    simp only [evOp] at he
    have hy := od_sound hr hd
    obtain ⟨rfl, rfl, q⟩ := nilchk_sound hy he
    refine ⟨rfl, _, hy, fun w' => ?_⟩
    obtain ⟨b, q⟩ := q
    rcases q with q | ⟨f, b, d, q | q⟩ <;> simp [execOp, ho, q]
  case h_11 op t px py _ ho =>
    split at hc
    · rename_i d e hd he'
      have := cBin_pure hc hp
      subst this
      simp only [evOp] at he
      obtain ⟨e1, e2⟩ := okV_sound he
      exact ⟨e2, Same.exec (s := do eqGuard op t px py (a.eval px) (a.eval py); binOp op t (a.eval px) (a.eval py)) (by simp [execOp, ho]) (binop_same (od_sound hr hd) (od_sound hr he') e1)⟩
    · cases hc
  case h_12 op _ y ho =>
    simp only [Option.map_eq_some_iff] at hc
    obtain ⟨d, hd, rfl⟩ := hc
    simp only [evOp] at he
    obtain ⟨e1, e2⟩ := okV_sound he
    exact ⟨e2, Same.exec (by simp [execOp, ho]) (unV_sound (od_sound hr hd) e1)⟩
  case h_13 s d y ho =>
    simp only [Option.bind_eq_some_iff] at hc
    obtain ⟨e, hd, hc⟩ := hc
    have hy := od_sound hr hd
    unfold cConv at hc
    split at hc
    · rename_i k1 k2 hs hdd
      cases hc
      simp only [evOp, evConv] at he
      split at he
      · rename_i k n hx
        obtain ⟨e1, e2⟩ := okV_sound he
        cases e1
        rw [hx] at hy
        simp only [RV] at hy
        exact ⟨e2, Same.exec (by simp [execOp, ho]; rfl) ⟨_, rfl, fun w' => by simp [convert, run_underlying hs, run_underlying hdd, hy, Conv.intToInt]⟩⟩
      · cases he
    · rename_i hs hdd
      cases hc
      simp only [evOp, evConv] at he
      split at he
      · rename_i q hx
        simp only [Option.some.injEq, Prod.mk.injEq] at he
        obtain ⟨rfl, rfl⟩ := he
        rw [hx] at hy
        simp only [RV] at hy
        exact ⟨rfl, Same.exec (by simp [execOp, ho]; rfl) ⟨_, rfl, fun w' => by simp [convert, run_underlying hs, run_underlying hdd, hy]⟩⟩
      · cases he
    · split at hc <;> cases hc
      simp [pureOp] at hp
    · split at hc <;> cases hc
      simp [pureOp] at hp
    · cases hc
  case h_14 t y ho =>
    split at hc
    · cases hc
    · rename_i d hd ht
      simp only [Option.map_eq_some_iff] at hc
      obtain ⟨e, he', rfl⟩ := hc
      simp only [evOp, Option.some.injEq, Prod.mk.injEq] at he
      obtain ⟨rfl, rfl⟩ := he
      exact ⟨rfl, Same.exec (s := Instr.makeInterface t (a.eval y)) (by simp [execOp, ho]) ⟨_, ⟨_, rfl, od_sound hr he'⟩, mki_run ht (fun m e => hd m e) _⟩⟩
    · cases hc
  case h_15 f fi ca ho =>
    split at hc
    · cases hc
    · rename_i hy
      split at hc
      · rename_i d e hd he'
        cases hc
        simp only [evOp, fS_eq, Option.some.injEq, Prod.mk.injEq] at he
        obtain ⟨rfl, rfl⟩ := he
        refine ⟨rfl, .func f (fi.map a.eval) (ca.map a.eval), ?_, fun w' => by simp [execOp, ho, Instr.makeFunc]⟩
        have e1 := cOds_sound hr _ _ hd
        have e2 := cOds_sound hr _ _ he'
        cases f
        case yield => simp [isYield] at hy
        all_goals exact ⟨_, _, rfl, by simpa using e1, by simpa using e2⟩
      · cases hc
  case h_16 => cases hc; simp [pureOp] at hp
  case h_17 =>
    split at hc
    · split at hc
      · cases hc; simp [pureOp] at hp
      · cases hc
    · cases hc
  case h_18 t y lo hi ho =>
    split at hc
    · rename_i d lo' hi' ht hd hlo hhi
      cases hc
      simp only [evOp] at he
      obtain ⟨e1, e2⟩ := okV_sound he
      exact ⟨e2, Same.exec (by simp [execOp, ho]) (sliceS_sound ht (od_sound hr hd) (optOd_sound' hr hlo) (optOd_sound' hr hhi) e1)⟩
    · rename_i e d lo' hi' ht hd hlo hhi
      simp only [Option.map_eq_some_iff] at hc
      obtain ⟨s, hs, rfl⟩ := hc
      simp only [evOp] at he
      obtain ⟨e1, e2⟩ := okV_sound he
      exact ⟨e2, Same.exec (by simp [execOp, ho]) (sliceL_sound inv ht hs (od_sound hr hd) (optOd_sound' hr hlo) (optOd_sound' hr hhi) e1)⟩
    · cases hc
  case h_19 t y f ho =>
    split at hc
    · rename_i fs d ht hd
      simp only [Option.bind_eq_some_iff] at hc
      obtain ⟨g, hg, s, hs, hc⟩ := hc
      split at hc
      · cases hc
      · rename_i h0
        cases hc
        simp only [evOp] at he
        obtain ⟨e1, e2⟩ := okV_sound he
        exact ⟨e2, Same.exec (by simp [execOp, ho]) (faddrV_sound ht hg hs h0 (od_sound hr hd) e1)⟩
    · cases hc
  case h_20 t y f ho =>
    split at hc
    · rename_i fs d ht hd
      simp only [Option.bind_eq_some_iff, Option.map_eq_some_iff] at hc
      obtain ⟨g, hg, ag, ha, rfl⟩ := hc
      simp only [evOp] at he
      obtain ⟨e, hs⟩ := field_sound ht hg ha (od_sound hr hd) he
      exact ⟨e, Same.exec (by simp [execOp, ho]) hs⟩
    · cases hc
  case h_21 t y i ho =>
    split at hc
    · rename_i e d j ht hd hj
      simp only [Option.bind_eq_some_iff] at hc
      obtain ⟨s, hs, hc⟩ := hc
      split at hc
      · cases hc
      · cases hc
        simp only [evOp] at he
        obtain ⟨e1, e2⟩ := okV_sound he
        exact ⟨e2, Same.exec (by simp [execOp, ho]) (iaddrV_sound inv ht hs (od_sound hr hd) (od_sound hr hj) e1)⟩
    · rename_i n e d j ht hd hj
      simp only [Option.bind_eq_some_iff] at hc
      obtain ⟨s, hs, hc⟩ := hc
      split at hc
      · cases hc
      · cases hc
        simp only [evOp] at he
        obtain ⟨e, hs⟩ := iaddrA_sound ht hs (od_sound hr hd) (od_sound hr hj) he
        exact ⟨e, Same.exec (by simp [execOp, ho]) hs⟩
    · cases hc
  case h_22 t y i ho =>
    split at hc
    · rename_i d j ht hd hj
      cases hc
      simp only [evOp] at he
      obtain ⟨e, hs⟩ := idxS_sound ht (od_sound hr hd) (od_sound hr hj) he
      exact ⟨e, Same.exec (by simp [execOp, ho]) hs⟩
    · split at hc
      · cases hc; simp [pureOp] at hp
      · cases hc
    · cases hc
  case h_23 =>
    split at hc
    · split at hc <;> cases hc
      simp [pureOp] at hp
    · cases hc
  case h_24 =>
    split at hc
    · simp only [Option.map_eq_some_iff] at hc; obtain ⟨d, hd, rfl⟩ := hc; simp [pureOp] at hp
    · cases hc
  case h_25 =>
    split at hc
    · simp only [Option.map_eq_some_iff] at hc; obtain ⟨d, hd, rfl⟩ := hc; simp [pureOp] at hp
    · cases hc
  case h_26 =>
    split at hc
    · split at hc <;> cases hc
      simp [pureOp] at hp
    · cases hc
  case h_27 => split at hc <;> cases hc; simp [pureOp] at hp
  case h_28 y i ho =>
    simp only [Option.map_eq_some_iff] at hc
    obtain ⟨d, hd, rfl⟩ := hc
    simp only [evOp] at he
    obtain ⟨e, hs⟩ := ext_sound (od_sound hr hd) he
    exact ⟨e, Same.exec (by simp [execOp, ho]) hs⟩
  case h_29 cl ho =>
    split at hc
    · rename_i b args hb ha
      obtain ⟨t, y, n, rfl, h1, rfl, rfl, hq⟩ := cB_pure hc hp
      simp only [evOp, Od.ev, Option.some.injEq, Prod.mk.injEq] at he
      obtain ⟨rfl, rfl⟩ := he
      obtain ⟨o1, r, hl, g1, g2⟩ := cOds_cons ha
      have := cOds_nil g2
      subst this
      refine ⟨rfl, Same.exec (s := Builtin.len_ #[t] o.type #[a.eval o1]) (by simp [execOp, ho, resolve, hb, invoke, builtin, arr1 h1, arr1 hl]) ⟨_, rfl, fun w' => ?_⟩⟩
      rcases hq with ⟨e, ht⟩ | ⟨p, e, ht, hq⟩
      · simp [Builtin.len_, run_underlying ht, goInt]
      · simp [Builtin.len_, run_underlying ht, run_underlying hq, goInt]
    · simp only [Option.map_eq_some_iff] at hc; obtain ⟨d, hd, rfl⟩ := hc; simp [pureOp] at hp
    · cases hc
  case h_30 t y lo hi mx ho =>
    split at hc
    · simp only [Option.map_eq_some_iff] at hc
      obtain ⟨s, hs, rfl⟩ := hc
      simp [pureOp] at hp
    · cases hc
  case h_31 => cases hc
end
end Go.Ev

namespace Go.Ev
open Go.RowKit
set_option linter.unusedVariables false
set_option linter.unusedSectionVars false
set_option linter.unusedSimpArgs false

section
variable {P : Program} {B : Nat} {S : Cells} {w : World} {κ : Kap} {h : Heap}

theorem optOd_sound {env : List V} {a : Act} (hr : RL S w κ env a.tmps.toList) {o : Option Operand} {d : Option Od} (h : optOd o = some d) : RO S w κ (d.map (·.ev env)) (o.map a.eval) := by
  cases o with
  | none => simp [optOd] at h; subst h; trivial
  | some x =>
    simp only [optOd, Option.map_eq_some_iff] at h
    obtain ⟨e, he, rfl⟩ := h
    exact od_sound hr he

theorem Good.ex {x : V} {h' : Heap} {o : Oper} {a : Act} {s : Sem Next} (hs : execOp a.eval o = s) (hg : Good P B S w κ h' x s) : Good P B S w κ h' x (execOp a.eval o) := by rw [hs]; exact hg

theorem eqd_guard {t : TypeId} (h : P.eqGuardType P.depth t = false) {op : BinOp} {px py : Operand} {u v : Value} (hu : u ≠ .nilIface) (w' : World) :
    (eqGuard op t px py u v).run P w' = .ok () w' := by
  unfold eqGuard
  cases op <;> simp
  all_goals
    cases u <;> cases v <;> simp_all

/-- No number, no text. -/
def plainV : Value → Bool
  | .bool _ | .agg _ | .pointer _ | .slice _ _ _ | .map _ | .func _ _ _ | .nilFunc => true
  | _ => false

theorem binOp_eql {t : TypeId} {u v : Value} (hu : plainV u = true) : binOp .eql t u v = (do pure (.bool (← Op.equal t u v))) := by
  cases u <;> simp [plainV] at hu <;> cases v <;> rfl
theorem binOp_neq {t : TypeId} {u v : Value} (hu : plainV u = true) : binOp .neq t u v = (do pure (.bool (!(← Op.equal t u v)))) := by
  cases u <;> simp [plainV] at hu <;> cases v <;> rfl

def isNeq (op : BinOp) : Bool := op matches .neq

theorem isEq_cases {op : BinOp} (h : isEq op = true) : op = .eql ∨ op = .neq := by cases op <;> simp [isEq] at h <;> simp

theorem eq_run {op : BinOp} {t : TypeId} {px py : Operand} {u v : Value} (ho : isEq op = true) (hu : plainV u = true)
    (hg : ∀ w', (eqGuard op t px py u v).run P w' = .ok () w') {r : Bool} (hr : ∀ w', (Op.equal t u v).run P w' = .ok r w') (w' : World) :
    (do eqGuard op t px py u v; binOp op t u v : Sem Value).run P w' = .ok (.bool (r != isNeq op)) w' := by
  rcases isEq_cases ho with rfl | rfl
  · simp [hg, binOp_eql hu, hr, isNeq]
  · simp [hg, binOp_neq hu, hr, isNeq]

theorem nil_plain {k : Lk} {x : V} {u : Value} {b : Bool} (hx : RV S w κ x u) (hh : nilOf k x = some b) : plainV u = true ∧ (∀ c, u ≠ .agg c) ∧ u ≠ .nilIface := by
  have := nilOf_sound hx hh
  cases k
  · rcases this with ⟨_, rfl⟩ | ⟨_, a, rfl⟩ <;> simp [plainV]
  · cases x <;> simp [nilOf] at hh
    · simp only [RV] at hx; subst hx; simp [plainV]
    · simp only [RV] at hx; obtain ⟨a, c, rfl, _⟩ := hx; simp [plainV]
    · simp only [RV] at hx; obtain ⟨e, b, st, cp, sz, a, c, _, _, rfl, _⟩ := hx; simp [plainV]
  · cases x <;> simp [nilOf] at hh
    · simp only [RV] at hx; subst hx; simp [plainV]
    · simp only [RV] at hx; obtain ⟨b, _, rfl⟩ := hx; simp [plainV]
  · cases x <;> simp [nilOf] at hh
    · simp only [RV] at hx; subst hx; simp [plainV]
    · rename_i f a c _
      cases f <;> (simp only [RV] at hx; obtain ⟨a', hx⟩ := hx; first | (obtain ⟨c', rfl, _⟩ := hx; simp [plainV]) | (obtain ⟨_, rfl, _⟩ := hx; simp [plainV]))
  · simp [nilOf] at hh

theorem bin_sound (inv : Inv P B S w κ h) {op : BinOp} {t : TypeId} {px py : Operand} {x y : Od} {env : List V} {a : Act} (hr : RL S w κ env a.tmps.toList) (hx : cOd px = some x) (hy : cOd py = some y)
    {c : Cop} (hc : cBin P op t x y = some c) {z : V} {h' : Heap} (he : evOp env h c = some (z, h')) :
    h' = h ∧ ∃ r, RV S w κ z r ∧ ∀ w', (do eqGuard op t px py (a.eval px) (a.eval py); binOp op t (a.eval px) (a.eval py) : Sem Value).run P w' = .ok r w' := by
  have rx := od_sound hr hx
  have ry := od_sound hr hy
  have hbin : evOp env h (.bin op x y) = some (z, h') → h' = h ∧ ∃ r, RV S w κ z r ∧ ∀ w', (do eqGuard op t px py (a.eval px) (a.eval py); binOp op t (a.eval px) (a.eval py) : Sem Value).run P w' = .ok r w' := by
    intro he
    simp only [evOp] at he
    obtain ⟨e1, e2⟩ := okV_sound he
    exact ⟨e2, binop_same rx ry e1⟩
  have heqn : ∀ k, nkT P t k → isEq op = true → evOp env h (.eqn k (isNeq op) x y) = some (z, h') →
      h' = h ∧ ∃ r, RV S w κ z r ∧ ∀ w', (do eqGuard op t px py (a.eval px) (a.eval py); binOp op t (a.eval px) (a.eval py) : Sem Value).run P w' = .ok r w' := by
    intro k hk hop he
    simp only [evOp, evEqn] at he
    split at he
    · rename_i r hq
      obtain ⟨e1, e2⟩ := okV_sound he
      cases e1
      refine ⟨e2, _, rfl, ?_⟩
      have : ∃ b, nilOf k (x.ev env) = some b := by
        unfold eqnV at hq
        split at hq
        · exact ⟨_, by assumption⟩
        · exact ⟨_, by assumption⟩
        · cases hq
      obtain ⟨b, hb⟩ := this
      obtain ⟨h1, h2, h3⟩ := nil_plain rx hb
      exact eq_run hop h1 (fun w' => eqGuard_ok h3 h2 w') (fun w' => eqn_sound hk rx ry hq 9999 w')
    · cases he
  have heqc : ∀ q, isEq op = true → P.eqGuardType P.depth t = false → eqD P 20 t = some q → (q = .leaf .b ∨ ∃ a b c d, q = .cons a b c d) → evOp env h (.eqc (isNeq op) q x y) = some (z, h') →
      h' = h ∧ ∃ r, RV S w κ z r ∧ ∀ w', (do eqGuard op t px py (a.eval px) (a.eval py); binOp op t (a.eval px) (a.eval py) : Sem Value).run P w' = .ok r w' := by
    intro q hop hg hq hqc he
    simp only [evOp, evEqc] at he
    split at he
    · rename_i r hqv
      obtain ⟨e1, e2⟩ := okV_sound he
      cases e1
      refine ⟨e2, _, rfl, ?_⟩
      have : plainV (a.eval px) = true ∧ a.eval px ≠ .nilIface := by
        rcases hqc with rfl | ⟨_, _, _, _, rfl⟩
        · obtain ⟨b1, b2, e1, _⟩ := cellEq_b (by simpa [eqdV] using hqv)
          rw [e1] at rx; simp only [RV] at rx; rw [rx]; simp [plainV]
        · obtain ⟨xs, ys, e1, _⟩ := eqdV_cons hqv
          rw [e1] at rx; simp only [RV] at rx; obtain ⟨c, rx, _⟩ := rx; rw [rx]; simp [plainV]
      exact eq_run hop this.1 (fun w' => eqd_guard hg this.2 w') (fun w' => eqdV_sound 20 t q hq _ _ _ _ _ rx ry hqv Op.maxDepth w' (by decide))
    · cases he
  unfold cBin at hc
  split at hc
  · rename_i hop
    split at hc
    · cases hc; exact hbin he
    · cases hc; exact hbin he
    · rename_i ht
      split at hc
      · cases hc
      · rename_i hg
        simp only [Option.map_eq_some_iff] at hc
        obtain ⟨q, hq, rfl⟩ := hc
        refine heqc q hop (by simpa using hg) hq (.inl ?_) he
        unfold eqD at hq
        rw [ht] at hq
        simpa using hq.symm
    · rename_i fs ht
      split at hc
      · cases hc
      · rename_i hg
        simp only [Option.map_eq_some_iff] at hc
        obtain ⟨q, hq, rfl⟩ := hc
        refine heqc q hop (by simpa using hg) hq (.inr ?_) he
        unfold eqD at hq
        rw [ht] at hq
        simp only at hq
        split at hq
        · cases hq
        · simp only [Option.bind_eq_some_iff] at hq
          obtain ⟨q0, _, hq⟩ := hq
          obtain ⟨rfl, h⟩ := nn_some hq
          exact h
    · rename_i n e ht
      split at hc
      · cases hc
      · rename_i hg
        simp only [Option.map_eq_some_iff] at hc
        obtain ⟨q, hq, rfl⟩ := hc
        refine heqc q hop (by simpa using hg) hq (.inr ?_) he
        unfold eqD at hq
        rw [ht] at hq
        simp only [Option.bind_eq_some_iff] at hq
        obtain ⟨s, _, ag, _, q0, _, hq⟩ := hq
        obtain ⟨rfl, h⟩ := nn_some hq
        exact h
    · rename_i e ht; cases hc; exact heqn .l ⟨_, ht⟩ hop he
    · rename_i k e ht; cases hc; exact heqn .m ⟨_, _, ht⟩ hop he
    · rename_i k e f ht; cases hc; exact heqn .f ⟨_, _, _, ht⟩ hop he
    · rename_i e ht; cases hc; exact heqn .p ⟨_, ht⟩ hop he
    · cases hc
  · cases hc; exact hbin he
end
end Go.Ev

namespace Go.Ev
open Go.RowKit
set_option linter.unusedVariables false
set_option linter.unusedSectionVars false
set_option linter.unusedSimpArgs false

section
variable {P : Program} {B : Nat} {S : Cells} {w : World} {κ : Kap} {h : Heap}

theorem Good.ofPure (inv : Inv P B S w κ h) {x : V} {h' : Heap} {s : Sem Next} (hs : h' = h ∧ Same P S w κ x s) : Good P B S w κ h' x s := by
  obtain ⟨rfl, hs⟩ := hs
  exact Good.same inv hs

theorem Good.allv (inv : Inv P B S w κ h) {x : V} {h' : Heap} {o : Oper} {a : Act} {s : Sem Value} (hs : execOp a.eval o = (do pure (.value (← s))))
    (hh : h' = h ∧ ∃ v, RV S w κ x v ∧ ∀ w', s.run P w' = .ok v w') : Good P B S w κ h' x (execOp a.eval o) := Good.ofPure inv ⟨hh.1, Same.exec hs hh.2⟩

theorem op_sound (inv : Inv P B S w κ h) {env : List V} {a : Act} (hr : RL S w κ env a.tmps.toList) {o : Oper} {c : Cop} (hc : cOp P o = some c)
    {x : V} {h' : Heap} (he : evOp env h c = some (x, h')) : Good P B S w κ h' x (execOp a.eval o) := by
  by_cases hp : pureOp c = true
  · exact Good.ofPure inv (op_pure inv hr hc hp he)
  unfold cOp at hc
  split at hc
  case h_1 y ho => simp only [Option.map_eq_some_iff] at hc; obtain ⟨d, hd, rfl⟩ := hc; simp [pureOp] at hp
  case h_2 y ho => simp only [Option.map_eq_some_iff] at hc; obtain ⟨d, hd, rfl⟩ := hc; simp [pureOp] at hp
  case h_3 y z1 z2 ho => split at hc <;> cases hc; simp [pureOp] at hp
  case h_4 t ho =>
    simp only [Option.map_eq_some_iff] at hc
    obtain ⟨z, hz, rfl⟩ := hc
    simp only [evOp, newOb_eq, Option.some.injEq, Prod.mk.injEq] at he
    obtain ⟨rfl, rfl⟩ := he
    exact Good.ex (by simp only [execOp, ho]) (Good.ret (alloc_sound inv hz))
  case h_5 t y ho =>
    simp only [Option.map_eq_some_iff] at hc
    obtain ⟨d, hd, rfl⟩ := hc
    exact Good.ex (s := do pure (.value (← Instr.box t (a.eval y)))) (by simp only [execOp, ho]) (Good.ret (box_sound inv (od_sound hr hd) he))
  case h_6 t parts ho =>
    split at hc
    · split at hc
      · cases hc
      · simp only [Option.map_eq_some_iff] at hc
        obtain ⟨l, hl, rfl⟩ := hc
        simp [pureOp] at hp
    · simp only [Option.bind_eq_some_iff, Option.map_eq_some_iff] at hc
      obtain ⟨s, hs, l, hl, rfl⟩ := hc
      simp [pureOp] at hp
    · cases hc
  case h_7 t len parts ho =>
    split at hc
    · rename_i e ht
      split at hc
      · rename_i q hq
        split at hc
        · cases hc
        · rename_i hsz
          simp only [Option.map_eq_some_iff] at hc
          obtain ⟨l, hl, rfl⟩ := hc
          simp only [evOp] at he
          exact Good.ex (by simp only [execOp, ho]) (Good.ret (bslice_sound inv hr ht hq hsz hl he))
      · cases hc
    · cases hc
  case h_8 t y ho =>
    split at hc
    · rename_i ag d ha hd
      cases hc
      simp only [evOp] at he
      obtain ⟨e, hs⟩ := load_sound inv ha (od_sound hr hd) he
      exact Good.ex (by simp only [execOp, ho]) (Good.val' inv e hs)
    · cases hc
  case h_9 t y z ho =>
    split at hc
    · rename_i n d e hn hd he'
      cases hc
      simp only [evOp] at he
      obtain ⟨w', κ', h1, h2, h3, h4⟩ := store_sound inv hn (od_sound hr hd) (od_sound hr he') he
      exact Good.ex (by simp only [execOp, ho]) (Good.skip h2 ⟨w', S, κ', h1, h3, h4⟩)
    · cases hc
  case h_10 y ho => simp only [Option.map_eq_some_iff] at hc; obtain ⟨d, hd, rfl⟩ := hc; simp [pureOp] at hp
  case h_11 op t px py _ ho =>
    split at hc
    · rename_i d e hd he'
      exact Good.allv inv (s := do eqGuard op t px py (a.eval px) (a.eval py); binOp op t (a.eval px) (a.eval py)) (by simp [execOp, ho]) (bin_sound inv hr hd he' hc he)
    · cases hc
  case h_12 op _ y ho => simp only [Option.map_eq_some_iff] at hc; obtain ⟨d, hd, rfl⟩ := hc; simp [pureOp] at hp
  case h_13 s d y ho =>
    simp only [Option.bind_eq_some_iff] at hc
    obtain ⟨e, hd, hc⟩ := hc
    have hy := od_sound hr hd
    unfold cConv at hc
    split at hc
    · cases hc; simp [pureOp] at hp
    · cases hc; simp [pureOp] at hp
    · rename_i el hs hdd
      split at hc
      · rename_i hel
        cases hc
        simp only [evOp, evConv] at he
        split at he
        · rename_i es hes
          split at he
          · rename_i l hl
            obtain ⟨e1, e2⟩ := okV_sound he
            cases e1
            exact Good.ex (by simp only [execOp, ho]) (Good.val' inv e2 ⟨_, rfl, bytesStr_sound inv hs hel hdd hy hes hl⟩)
          · cases he
        · cases he
      · cases hc
    · rename_i el hs hdd
      split at hc
      · rename_i hel
        cases hc
        simp only [evOp, evConv] at he
        split at he
        · rename_i q hx
          obtain ⟨_, he⟩ := ite_some' he
          simp only [newOb_eq, Option.some.injEq, Prod.mk.injEq] at he
          obtain ⟨rfl, rfl⟩ := he
          rw [hx] at hy
          simp only [RV] at hy
          exact Good.ex (by simp only [execOp, ho, hy]) (Good.ret (strBytes_sound inv hs hdd hel))
        · cases he
      · cases hc
    · cases hc
  case h_14 t y ho =>
    split at hc
    · cases hc
    · simp only [Option.map_eq_some_iff] at hc; obtain ⟨d, hd, rfl⟩ := hc; simp [pureOp] at hp
    · cases hc
  case h_15 f fi ca ho =>
    split at hc
    · cases hc
    · split at hc <;> cases hc; simp [pureOp] at hp
  case h_16 t ho =>
    cases hc
    simp only [evOp, newOb_eq, Option.some.injEq, Prod.mk.injEq] at he
    obtain ⟨rfl, rfl⟩ := he
    exact Good.ex (by simp only [execOp, ho]; rfl) (Good.ret (mkm_sound inv t))
  case h_17 t l cp ho =>
    split at hc
    · rename_i e ht
      split at hc
      · rename_i q d c' hq hd hc'
        cases hc
        simp only [evOp] at he
        exact Good.ex (by simp only [execOp, ho]) (Good.ret (mks_sound inv ht hq (od_sound hr hd) (od_sound hr hc') he))
      · cases hc
    · cases hc
  case h_18 t y lo hi ho =>
    split at hc
    · cases hc; simp [pureOp] at hp
    · simp only [Option.map_eq_some_iff] at hc; obtain ⟨d, hd, rfl⟩ := hc; simp [pureOp] at hp
    · cases hc
  case h_19 t y f ho =>
    split at hc
    · simp only [Option.bind_eq_some_iff] at hc
      obtain ⟨g, hg, s, hs, hc⟩ := hc
      split at hc <;> cases hc
      simp [pureOp] at hp
    · cases hc
  case h_20 t y f ho =>
    split at hc
    · simp only [Option.bind_eq_some_iff, Option.map_eq_some_iff] at hc
      obtain ⟨g, hg, ag, ha, rfl⟩ := hc
      simp [pureOp] at hp
    · cases hc
  case h_21 t y i ho =>
    split at hc
    · simp only [Option.bind_eq_some_iff] at hc
      obtain ⟨s, hs, hc⟩ := hc
      split at hc <;> cases hc
      simp [pureOp] at hp
    · simp only [Option.bind_eq_some_iff] at hc
      obtain ⟨s, hs, hc⟩ := hc
      split at hc <;> cases hc
      simp [pureOp] at hp
    · cases hc
  case h_22 t y i ho =>
    split at hc
    · cases hc; simp [pureOp] at hp
    · rename_i n e d j ht hd hj
      split at hc
      · rename_i s ag hs ha
        cases hc
        simp only [evOp] at he
        exact Good.allv inv (by simp only [execOp, ho]) (idxA_sound ht hs ha (od_sound hr hd) (od_sound hr hj) he)
      · cases hc
    · cases hc
  case h_23 t m k ok ho =>
    split at hc
    · rename_i kt e d j ht hd hj
      split at hc
      · rename_i ks z hk hz
        cases hc
        simp only [evOp] at he
        obtain ⟨e1, hs⟩ := look_sound inv ht hk hz (od_sound hr hd) (od_sound hr hj) he
        exact Good.ex (by simp only [execOp, ho]) (Good.val' inv e1 hs)
      · cases hc
    · cases hc
  case h_24 t m k y ho =>
    split at hc
    · rename_i kt e d j l ht hd hj hl
      simp only [Option.map_eq_some_iff] at hc
      obtain ⟨ks, hk, rfl⟩ := hc
      simp only [evOp] at he
      obtain ⟨h1, h2⟩ := mapup_sound inv ht hk (od_sound hr hd) (od_sound hr hj) (od_sound hr hl) he
      exact Good.ex (by simp only [execOp, ho]) (Good.skip h1 h2)
    · cases hc
  case h_25 t m k y ho =>
    split at hc
    · rename_i kt e d j l ht hd hj hl
      simp only [Option.map_eq_some_iff] at hc
      obtain ⟨ks, hk, rfl⟩ := hc
      simp only [evOp] at he
      obtain ⟨h1, h2⟩ := mapup_sound inv ht hk (od_sound hr hd) (od_sound hr hj) (od_sound hr hl) he
      exact Good.ex (by simp only [execOp, ho]) (Good.skip h1 h2)
    · cases hc
  case h_26 t m k ho =>
    split at hc
    · rename_i kt e d j ht hd hj
      split at hc
      · rename_i ks z hk hz
        cases hc
        simp only [evOp] at he
        exact Good.ex (by simp only [execOp, ho]) (Good.ret (mapent_sound inv ht hk hz (od_sound hr hd) (od_sound hr hj) he))
      · cases hc
    · cases hc
  case h_27 t m s y ho =>
    split at hc
    · rename_i d j l hd hj hl
      cases hc
      simp only [evOp] at he
      obtain ⟨h1, h2⟩ := entst_sound (t := t) inv (od_sound hr hd) (od_sound hr hj) (od_sound hr hl) he
      exact Good.ex (by simp only [execOp, ho]) (Good.skip h1 h2)
    · cases hc
  case h_28 y i ho => simp only [Option.map_eq_some_iff] at hc; obtain ⟨d, hd, rfl⟩ := hc; simp [pureOp] at hp
  case h_29 cl ho =>
    split at hc
    · rename_i b args hb ha
      exact builtin_sound inv hr ho hb ha hc he
    · simp only [Option.map_eq_some_iff] at hc
      obtain ⟨d, hd, rfl⟩ := hc
      simp [evOp] at he
    · cases hc
  case h_30 t y lo hi mx ho =>
    split at hc
    · rename_i e d lo' hi' mx' ht hd hlo hhi hmx
      simp only [Option.map_eq_some_iff] at hc
      obtain ⟨s, hs, rfl⟩ := hc
      simp only [evOp] at he
      exact Good.allv inv (by simp [execOp, ho]) (sl3_sound ht hs (od_sound hr hd) (optOd_sound hr hlo) (od_sound hr hhi) (od_sound hr hmx) he)
    · cases hc
  case h_31 => cases hc
end
end Go.Ev

namespace Go.Ev
open Go.RowKit
set_option linter.unusedVariables false
set_option linter.unusedSectionVars false
set_option linter.unusedSimpArgs false

/-- The fence of a frame: wide; a round's, or a function's. -/
def Fr (ro : Option Nat) : Fence := { Fence.wide with round := ro }

theorem Fr_fn (ro : Option Nat) (f : FuncId) : (Fr ro).fn f := trivial
theorem Fr_depth (ro : Option Nat) : (Fr ro).depth = none := rfl

/-- Marks, and the deferred calls that they are. -/
def MK (κ : Kap) : List Nat → List Deferred → Prop
  | [], [] => True
  | m :: ms, d :: ds => (∃ b, κ m = some (.blk b) ∧ d = { target := .collected b, args := #[] }) ∧ MK κ ms ds
  | _, _ => False

theorem MK.mono {κ κ' : Kap} (hk : Kle κ κ') : ∀ (ms : List Nat) (ds : List Deferred), MK κ ms ds → MK κ' ms ds
  | [], [], _ => trivial
  | [], _ :: _, h => h.elim
  | _ :: _, [], h => h.elim
  | m :: ms, d :: ds, h => by
    obtain ⟨⟨b, hb, e⟩, t⟩ := h
    obtain ⟨k', hk', le⟩ := hk _ _ hb
    cases le
    exact ⟨⟨b, hk', e⟩, MK.mono hk ms ds t⟩

structure SR (P : Program) (B : Nat) (S : Cells) (w : World) (κ : Kap) (s : St) (a : Act) : Prop where
  inv : Inv P B S w κ s.heap
  env : RL S w κ s.env a.tmps.toList
  mks : MK κ s.marks a.defers

/-- What a call's end must be. -/
def Ends (P : Program) (B : Nat) (S : Cells) (w : World) (κ : Kap) (x : V) (h' : Heap) (e : Ending) (w' : World) : Prop :=
  ∃ v S' κ', e = .returned v ∧ Inv P B S' w' κ' h' ∧ Stp B S w κ S' w' κ' ∧ RV S' w' κ' x v

/-- What a call leads to. -/
def Leads (P : Program) (B : Nat) (S : Cells) (w : World) (κ : Kap) (x : V) (h' : Heap) : Next → Prop
  | .enter g as => ∀ n, CallsIn Fence.wide n P g as w (Ends P B S w κ x h')
  | .round l f t asg body => ∀ n, RoundIn Fence.wide n P l f t asg body w (Ends P B S w κ x h')
  | _ => False

/-- A call's meaning is the machine's. -/
def CallS (P : Program) (call : CallF) : Prop :=
  ∀ f args h x h', call f args h = some (x, h') → ∀ {B : Nat} {S : Cells} {w : World} {κ : Kap} {fv : Value} {vs : Array Value}, Inv P B S w κ h → RV S w κ f fv → RL S w κ args vs.toList →
    ∃ d nx, (Deferred.ofValue fv vs).run P w = .ok d w ∧ (invoke d.target d.args).run P w = .ok nx w ∧ Leads P B S w κ x h' nx ∧
      ((∀ l a c, f ≠ .fn (.yield l) a c) → ∃ g as, nx = .enter g as)

theorem SR_put {P : Program} {B : Nat} {S : Cells} {w : World} {κ : Kap} {s : St} {a : Act} {h' : Heap} {x : V} {v : Value} (hs : SR P B S w κ s a) {S' : Cells} {w' : World} {κ' : Kap} (inv : Inv P B S' w' κ' h') (st : Stp B S w κ S' w' κ')
    (hx : RV S' w' κ' x v) (d : Option Nat) : SR P B S' w' κ' { s with env := putV s.env d x, heap := h' } (a.put d v) := by
  refine ⟨inv, ?_, ?_⟩
  · exact put_sound (RL.mono st.sle st.kle _ _ hs.env) hx d
  · have := MK.mono st.kle _ _ hs.mks
    cases d <;> exact this

section
variable {P : Program} {B : Nat} {S : Cells} {w : World} {κ : Kap}

theorem wanted_sound {ops : Array Oper} {o : Oper} {g : Option (Nat × Bool)} (hg : cGuard ops o.guard = some g) {env : List V} {a : Act} (hr : RL S w κ env a.tmps.toList) {b : Bool}
    (hw : wanted env g = some b) : Region.wanted o (yielded ops a.tmps) = b := by
  unfold Region.wanted
  cases ho : o.guard with
  | none =>
    rw [ho] at hg
    simp only [cGuard, Option.some.injEq] at hg
    subst hg
    simpa [wanted] using hw
  | some jw =>
    obtain ⟨j, want⟩ := jw
    rw [ho] at hg
    simp only [cGuard, Option.map_eq_some_iff] at hg
    obtain ⟨d, hd, rfl⟩ := hg
    simp only [wanted] at hw
    show (yielded ops a.tmps j == some want) = b
    unfold yielded
    rw [hd]
    simp only [Option.bind_some]
    unfold eget at hw
    rw [List.getD_eq_getElem?_getD] at hw
    cases he : env[d]? with
    | none =>
      have hl := RL_length hr
      have ha : a.tmps[d]? = none := by
        rw [List.getElem?_eq_none_iff] at he
        rw [Array.getElem?_eq_none_iff]
        simp at hl
        omega
      rw [he] at hw
      rw [ha]
      simpa [V.non] using hw
    | some x =>
      obtain ⟨v, hv, hxv⟩ := RL_get hr he
      rw [he] at hw
      have hv' : a.tmps[d]? = some v := by simpa using hv
      rw [hv']
      simp only [Option.getD_some] at hw
      split at hw
      · simp only [RV] at hxv
        subst hxv
        simpa using hw
      · simp only [RV, RL] at hxv
        obtain ⟨c, rfl, _⟩ := hxv
        simpa using hw
      · cases hw

theorem cOp_call {o : Oper} {f : Od} {args : List Od} (hc : cOp P o = some (.call f args)) :
    ∃ cl fo, o.op = .call cl ∧ cl.callee = .value fo ∧ cOd fo = some f ∧ cOds cl.args.toList = some args := by
  unfold cOp at hc
  split at hc
  case h_29 cl ho =>
    split at hc
    · rename_i b as hb ha
      exfalso
      unfold cBuiltin at hc
      revert hc
      (repeat' split) <;> simp
    · rename_i fo as hb ha
      simp only [Option.map_eq_some_iff, Cop.call.injEq] at hc
      obtain ⟨fd, hfd, rfl, rfl⟩ := hc
      exact ⟨cl, fo, ho, hb, hfd, ha⟩
    · cases hc
  case h_11 =>
    exfalso
    split at hc
    · unfold cBin at hc
      revert hc
      (repeat' split) <;> simp
    · cases hc
  case h_13 =>
    exfalso
    simp only [Option.bind_eq_some_iff] at hc
    obtain ⟨e, _, hc⟩ := hc
    unfold cConv at hc
    revert hc
    (repeat' split) <;> simp
  all_goals
    exfalso
    revert hc
    (repeat' split) <;> simp [Option.bind_eq_some_iff]
  all_goals
    intros
    (repeat' split) <;> simp

theorem fS_eq' {α β : Type} (l : List β) (k : List β → α) : fS l k = k l := fS_eq l k

/-- One operation of a region. -/
theorem cp_sound {call : CallF} (hcall : CallS P call) {ops : Array Oper} {o : Oper} {p : Cp} (hp : cOper P ops o = some p) {s s' : St} (he : evCp call p s = some s')
    {a : Act} (hs : SR P B S w κ s a) {ro : Option Nat} {n : Nat} {K : Act → World → Prop} {Q : Exit → Act → World → Prop}
    (hK : ∀ a' w' S' κ', SR P B S' w' κ' s' a' → Stp B S w κ S' w' κ' → K a' w') :
    if Region.wanted o (yielded ops a.tmps) then o.wpIn (Fr ro) n P a w K Q else (∀ f, o.about P w a.eval = some f → (Fr ro).fn f) ∧ K (a.put o.dst undef) w := by
  unfold cOper at hp
  split at hp
  case h_2 => cases hp
  rename_i c g hc hg
  cases hp
  unfold evCp at he
  simp only at he
  cases hw : wanted s.env g with
  | none => rw [hw] at he; cases he
  | some b =>
    rw [hw] at he
    rw [wanted_sound hg hs.env hw]
    cases b with
    | false =>
      simp only [Option.some.injEq] at he
      subst he
      simp only [Bool.false_eq_true, if_false]
      exact ⟨fun f _ => trivial, hK _ _ _ _ (SR_put hs hs.inv (.refl _ _ _ _) RV_non o.dst) (.refl _ _ _ _)⟩
    | true =>
      simp only [if_true]
      refine ⟨fun f _ => trivial, ?_⟩
      have hnd : ∀ c', o.op ≠ .defer c' := by
        intro c' e
        unfold cOp at hc
        rw [e] at hc
        simp at hc
      rw [Oper.semAt_eq _ _ _ hnd]
      have hop : (∀ f args, c ≠ .call f args) → (match evOp s.env s.heap c with
          | some (v, h) => fS (putV s.env o.dst v) fun env => some { s with env, heap := h }
          | none => none) = some s' → o.uponIn (Fr ro) n P a K Q ((execOp a.eval o).run P w) := by
        intro _ he
        split at he
        · rename_i v h heq
          rw [fS_eq] at he
          cases he
          obtain ⟨v', w', S', κ', hrun, inv', st', hv⟩ := op_sound hs.inv hs.env hc heq
          rcases hrun with hrun | ⟨rfl, hrun⟩
          · rw [hrun]
            exact hK _ _ _ _ (SR_put hs inv' st' hv o.dst) st'
          · rw [hrun]
            exact hK _ _ _ _ (SR_put hs inv' st' hv o.dst) st'
        · cases he
      by_cases hcall' : ∃ f args, c = .call f args
      · obtain ⟨f, args, rfl⟩ := hcall'
        simp only at he
        rw [fS_eq] at he
        split at he
        · rename_i v h heq
          rw [fS_eq] at he
          cases he
          -- the operation is a call
          have : ∃ cl fo, o.op = .call cl ∧ cl.callee = .value fo ∧ cOd fo = some f ∧ cOds cl.args.toList = some args := by
            exact cOp_call hc
          obtain ⟨cl, fo, ho, hb, hfd, hargs⟩ := this
          obtain ⟨d, nx, h1, h2, h3, _⟩ := hcall _ _ _ _ _ heq (vs := cl.args.map a.eval) hs.inv (od_sound hs.env hfd) (by simpa using cOds_sound hs.env _ _ hargs)
          have : (execOp a.eval o).run P w = .ok nx w := by
            simp only [execOp, ho, resolve, hb]
            simp [h1, h2]
          rw [this]
          cases nx with
          | enter g as =>
            refine ⟨fun h => by simp [Fr, Fence.wide] at h, ?_⟩
            refine CallsIn.mono (R := Ends P B S w κ v h) (h3 (n - 1)) (fun e w' he => ?_)
            obtain ⟨v', S', κ', rfl, inv', st', hv⟩ := he
            exact hK _ _ _ _ (SR_put hs inv' st' hv o.dst) st'
          | round l f' t asg body =>
            refine ⟨fun h => by simp [Fr, Fence.wide] at h, ?_⟩
            refine RoundIn.mono (R := Ends P B S w κ v h) (h3 (n - 1)) (fun e w' he => ?_)
            obtain ⟨v', S', κ', rfl, inv', st', hv⟩ := he
            exact hK _ _ _ _ (SR_put hs inv' st' hv o.dst) st'
          | _ => exact h3.elim
        · cases he
      · have hne : ∀ f args, c ≠ .call f args := fun f args e => hcall' ⟨f, args, e⟩
        refine hop hne ?_
        cases c <;> first | exact he | exact absurd rfl (hne _ _)
end
end Go.Ev
