/- Temporaries put down in whatever order. Loops over functions, by rewriting. No conditions. -/
import Derived.Test.YtaeklgflchhmfaaGreatDoorEwM
set_option maxHeartbeats 16000000
set_option maxRecDepth 100000
set_option linter.unusedVariables false
set_option linter.unusedSimpArgs false
set_option linter.unusedSectionVars false
namespace Go.Ev
def puts (env : List V) : List (Nat × V) → List V
 | [] => env
 | p :: l => puts (env.set p.1 p.2) l
theorem jZa (env : List V) (i : Nat) (v : V) : env.set i v = puts env [(i, v)] := rfl
theorem wZf (env : List V) : ∀ (l m : List (Nat × V)), puts (puts env l) m = puts env (l ++ m)
 | [], m => rfl
 | p :: l, m => wZf (env.set p.1 p.2) l m
def look1 (l : List (Nat × V)) (i : Nat) : Option V :=
 match l with
 | [] => none
 | p :: l => if p.1 = i then some p.2 else look1 l i
def keysOk : List (Nat × V) → Bool
 | [] => true
 | p :: l => (l.all fun q => q.1 != p.1) && keysOk l
theorem puts_get : ∀ (l : List (Nat × V)) (env : List V), keysOk l = true → ∀ i, (puts env l)[i]? = (match look1 l i with
  | some v => if i < env.length then some v else none
  | none => env[i]?)
 | [], env, _, i => rfl
 | p :: l, env, hk, i => by
  simp only [keysOk, Bool.and_eq_true] at hk
  have ih := puts_get l (env.set p.1 p.2) hk.2 i
  simp only [puts, look1]
  rw [ih]
  by_cases e : p.1 = i
  ·subst e
   have hn : look1 l p.1 = none := by
    have : ∀ (l : List (Nat × V)), (l.all fun q => q.1 != p.1) = true → look1 l p.1 = none := by
     intro l
     induction l with
     | nil => intro _; rfl
     | cons q l ihl =>
      intro h
      simp only [List.all_cons, Bool.and_eq_true, bne_iff_ne, ne_eq] at h
      simp only [look1, if_neg h.1]
      exact ihl h.2
    exact this l hk.1
   rw [hn]
   simp only [if_true]
   rw [List.getElem?_set]
   simp
  ·simp only [if_neg e, List.length_set]
   split
   ·rfl
   ·rw [List.getElem?_set_ne e]
theorem wZ8 {l m : List (Nat × V)} (env : List V) (h1 : keysOk l = true) (h2 : keysOk m = true) (h3 : (l.map Prod.fst).map (look1 l) = (l.map Prod.fst).map (look1 m)) (h4 : (m.all fun q => (l.map Prod.fst).contains q.1) = true) : puts env l = puts env m := by
 apply List.ext_getElem?
 intro i
 rw [puts_get l env h1, puts_get m env h2]
 have : look1 l i = look1 m i := by
  by_cases hi : i ∈ l.map Prod.fst
  ·have : ∀ (k : List Nat), k.map (look1 l) = k.map (look1 m) → i ∈ k → look1 l i = look1 m i := by
    intro k
    induction k with
    | nil => intro _ h; cases h
    | cons a k ih =>
     intro h hm
     simp only [List.map_cons, List.cons.injEq] at h
     rcases List.mem_cons.1 hm with rfl | hm
     ·exact h.1
     ·exact ih h.2 hm
   exact this _ h3 hi
  ·have a1 : look1 l i = none := by
    have : ∀ (l : List (Nat × V)), i ∉ l.map Prod.fst → look1 l i = none := by
     intro l
     induction l with
     | nil => intro _; rfl
     | cons q l ih =>
      intro h
      simp only [List.map_cons, List.mem_cons, not_or] at h
      simp only [look1]
      rw [if_neg (Ne.symm h.1)]
      exact ih h.2
    exact this l hi
   have a2 : look1 m i = none := by
    have : ∀ (m : List (Nat × V)), (m.all fun q => (l.map Prod.fst).contains q.1) = true → look1 m i = none := by
     intro m
     induction m with
     | nil => intro _; rfl
     | cons q m ih =>
      intro h
      simp only [List.all_cons, Bool.and_eq_true, List.contains_eq_mem, decide_eq_true_eq] at h
      simp only [look1]
      rw [if_neg (fun e => hi (by rw [← e]; exact h.1))]
      exact ih (by simpa using h.2)
    exact this m h4
   rw [a1, a2]
 rw [this]
section
variable {Φ : Nat → Option Cf}
theorem kRfunc {Q : Ex → St → Prop} {k : List It} {s : St} {f : Od} {ps : List Nat} {asg body : Cc} {g : FuncId} {first caps : List V} (hf : f.ev s.env = .fn (.func g) first caps) {r : V} {h2 : Heap}
  (hc : callW Φ (.fn (.func g) first caps) [.fn (.yield (s.heap.length + 1)) [] []] (s.heap ++ [Ob.defr false, Ob.loop .ready none s.env ps asg body s.heap.length]) = some (r, h2))
  {st : LoopState} {pend : Option Ex} {e' : List V} {p' : List Nat} {a' b' : Cc} {d' : Nat} (ho : h2[s.heap.length + 1]? = some (.loop st pend e' p' a' b' d')) (hst : st ≠ .busy)
  (hk : match pend.getD .normal with
   | .normal => WK (callW Φ) none Q k { env := s.env, marks := s.heap.length :: s.marks, heap := h2.set (s.heap.length + 1) .dead }
   | .exit i => WX (callW Φ) none Q i k { env := s.env, marks := s.heap.length :: s.marks, heap := h2.set (s.heap.length + 1) .dead }
   | .ret => Q .ret { env := s.env, marks := s.heap.length :: s.marks, heap := h2.set (s.heap.length + 1) .dead }) :
  WK (callW Φ) none Q (.c (.rfunc f ps asg body) :: k) s := by
 have hl : (s.heap ++ [Ob.defr false]).length = s.heap.length + 1 := by simp
 have he : evCodeW (callW Φ) none (.rfunc f ps asg body) s = some (pend.getD .normal, { env := s.env, marks := s.heap.length :: s.marks, heap := h2.set (s.heap.length + 1) .dead }) := by
  have ha : s.heap ++ [Ob.defr false] ++ [Ob.loop .ready none s.env ps asg body s.heap.length] = s.heap ++ [Ob.defr false, Ob.loop .ready none s.env ps asg body s.heap.length] := by simp
  simp only [evCodeW, hf, evEnter, hl, ha, hc, ho]
 simp only [WK]
 exact ⟨_, _, he, hk⟩
theorem yield_k {l : Nat} {first caps args : List V} {h : Heap} {pend : Option Ex} {env : List V} {ps : List Nat} {asg body : Cc} {df : Nat} (ho : h[l]? = some (.loop .ready pend env ps asg body df)) (hl : args.length = ps.length)
  {s1 : St} (hA : WK (callW Φ) (some l) (fun e s => e = .normal ∧ s = s1) [.c asg] { env := setMany env ps args, marks := [], heap := h })
  {pend' : Option Ex} {env' : List V} {ps' : List Nat} {asg' body' : Cc} {df' : Nat} (ho1 : s1.heap[l]? = some (.loop .ready pend' env' ps' asg' body' df'))
  {B : Ex → St → Prop} (hB : WK (callW Φ) (some l) B [.c body] { s1 with heap := s1.heap.set l (.loop .busy pend' env' ps' asg' body' df') })
  (hL : ∀ e s2, B e s2 → ∃ st2 pend2 env2 ps2 asg2 body2 df2, s2.heap[l]? = some (.loop st2 pend2 env2 ps2 asg2 body2 df2)) :
  ∃ e s2 env2 ps2 asg2 body2 df2, B e s2 ∧ (∃ st2 pend2, s2.heap[l]? = some (.loop st2 pend2 env2 ps2 asg2 body2 df2)) ∧ callW Φ (.fn (.yield l) first caps) args h = some (match e with
   | .normal => (.bool true, s2.heap.set l (.loop .ready none env2 ps2 asg2 body2 df2))
   | e => (.bool false, s2.heap.set l (.loop .done (some e) env2 ps2 asg2 body2 df2))) := by
 obtain ⟨e0, s0, h0, rfl, rfl⟩ := wZ2 hA
 obtain ⟨e, s2, h2, hb⟩ := wZ2 hB
 obtain ⟨st2, pend2, env2, ps2, asg2, body2, df2, ho2⟩ := hL e s2 hb
 have hc := callW_yield (first := first) (caps := caps) ho hl h0 ho1 h2 ho2
 refine ⟨e, s2, env2, ps2, asg2, body2, df2, hb, ⟨st2, pend2, ho2⟩, ?_⟩
 cases e <;> exact hc
end
def FinX (rs : List Rv) (P : V → Heap → Prop) (e : Ex) (s : St) : Prop := (e = .normal ∨ e = .ret) ∧ ∃ h1 vs, takeMarks s.heap s.marks = some h1 ∧ evRes s.env h1 rs = some vs ∧ P (pack vs) h1
attribute [simp] FinX
theorem vZU {call : CallF} {cf : Cf} {args : List V} {h : Heap} {P : V → Heap → Prop} (hn : args.length ≤ cf.ntmps)
  (hw : ∀ env : List V, env.length = cf.ntmps → (∀ i, i < args.length → eget env i = eget args i) → WK call none (FinX cf.results P) [.c cf.body] { env := env, marks := [], heap := h }) :
  ∃ r h', evBodyW call cf args h = some (r, h') ∧ P r h' := by
 have he := hw (args ++ List.replicate (cf.ntmps - args.length) V.non) (by simp; omega) (fun i hi => by simp [eget, List.getD_eq_getElem?_getD, List.getElem?_append_left hi])
 obtain ⟨e, s', h1, h2, ha, vs, h3, h4, h5⟩ := wZ2 he
 exact ⟨_, _, body_of hn ⟨e, s', h1, h2, ha, vs, h3, h4, rfl⟩, h5⟩
theorem call_x {Φ : Nat → Option Cf} {f : FuncId} {cf : Cf} (hf : Φ f = some cf) (hp : cf.pure = false) {args : List V} {h : Heap} {P : V → Heap → Prop} (hn : args.length ≤ cf.ntmps)
  (hw : ∀ env : List V, env.length = cf.ntmps → (∀ i, i < args.length → eget env i = eget args i) → WK (callW Φ) none (FinX cf.results P) [.c cf.body] { env := env, marks := [], heap := h }) :
  ∃ r h', callW Φ (.fn (.func f) [] []) args h = some (r, h') ∧ P r h' := by
 obtain ⟨r, h', h1, h2⟩ := vZU (call := callW Φ) (cf := cf) (P := P) hn hw
 refine ⟨r, h', kZW hf hp ?_, h2⟩
 simpa using h1
end Go.Ev
