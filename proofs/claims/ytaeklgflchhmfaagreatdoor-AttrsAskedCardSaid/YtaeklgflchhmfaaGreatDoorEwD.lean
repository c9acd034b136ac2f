/- The evaluator without a count: what it answers at some depth. No conditions. -/
import Derived.Test.YtaeklgflchhmfaaGreatDoorEwB
set_option maxHeartbeats 16000000
set_option maxRecDepth 100000
set_option linter.unusedVariables false
set_option linter.unusedSimpArgs false
set_option linter.unusedSectionVars false
namespace Go.Ev
def CLe (c d : CallF) : Prop := ∀ f a h r, c f a h = some r → d f a h = some r
theorem CLe.refl (c : CallF) : CLe c c := fun _ _ _ _ h => h
noncomputable def evRun (call : CallF) (ops : List Cp) (af : List (List Nat)) (fl : List Nat) (f : Nat) (listed : List Bool) (s : St) (j : Nat) : Option St :=
 match ops[j]? with
 | some o =>
  match evCp call o s with
  | some s' => evAny call ops af fl f (listed.set j true) s'
  | none => none
 | none => none
noncomputable def beqO (a : Option St) (r : St) : Bool :=
 match a with
 | some r' => sameSt r' r
 | none => false
theorem wZs (call : CallF) (ops : List Cp) (af : List (List Nat)) (fl : List Nat) (f : Nat) (listed : List Bool) (s : St) : evAny call ops af fl (f + 1) listed s =
  (match readyL ops.length af listed with
  | [] => some s
  | i :: is =>
   match (i :: is).find? fl.contains with
   | some j => evRun call ops af fl f listed s j
   | none =>
    match evRun call ops af fl f listed s i with
    | some r => if is.all (fun j => beqO (evRun call ops af fl f listed s j) r) then some r else none
    | none => none) := rfl
section mono
variable {c d : CallF} (hcd : CLe c d)
include hcd
theorem cp_mono {o : Cp} {s s' : St} (h : evCp c o s = some s') : evCp d o s = some s' := by
 unfold evCp at h ⊢
 split
 ·rename_i hw
  rw [hw] at h
  simp only at h
  split
  ·rename_i f args hop
   rw [hop] at h
   simp only [fS_eq] at h ⊢
   split at h
   ·rename_i v h' he
    rw [hcd _ _ _ _ he]
    exact h
   ·cases h
  ·rename_i hop
   split at h
   ·rename_i f args e; exact absurd e (hop f args)
   ·exact h
 ·rename_i hw; rw [hw] at h; exact h
 ·rename_i hw; rw [hw] at h; exact h
theorem ops_mono : ∀ (ops : List Cp) {s s' : St}, evOps c ops s = some s' → evOps d ops s = some s'
 | [], s, s', h => h
 | o :: r, s, s', h => by
  simp only [evOps] at h ⊢
  split at h
  ·rename_i s1 h1
   rw [cp_mono hcd h1]
   exact ops_mono r h
  ·cases h
theorem any_mono {ops : List Cp} {af : List (List Nat)} {fl : List Nat} : ∀ (f : Nat) {listed : List Bool} {s s' : St}, evAny c ops af fl f listed s = some s' → evAny d ops af fl f listed s = some s'
 | 0, listed, s, s', h => h
 | f + 1, listed, s, s', h => by
  rw [wZs] at h ⊢
  have run : ∀ j s1, evRun c ops af fl f listed s j = some s1 → evRun d ops af fl f listed s j = some s1 := by
   intro j s1 hj
   unfold evRun at hj ⊢
   split at hj
   ·rename_i o ho
    split at hj
    ·rename_i s2 h2
     rw [cp_mono hcd h2]
     exact any_mono f hj
    ·cases hj
   ·cases hj
  split
  ·rename_i hr
   rw [hr] at h
   exact h
  ·rename_i i is hr
   rw [hr] at h
   simp only at h
   split
   ·rename_i j hj
    rw [hj] at h
    exact run _ _ h
   ·rename_i hj
    rw [hj] at h
    simp only at h
    split at h
    ·rename_i r hri
     obtain ⟨hall, hh⟩ := qZR h
     rw [run _ _ hri]
     simp only
     rw [if_pos, hh]
     rw [List.all_eq_true] at hall ⊢
     intro k hk
     have := hall k hk
     unfold beqO at this ⊢
     split at this
     ·rename_i r' hr'
      rw [run _ _ hr']
      exact this
     ·cases this
    ·cases h
omit hcd in
theorem wZh {b b' : St → Option (Ex × St)} (hb : ∀ s r, b s = some r → b' s = some r) : ∀ {n m : Nat} {s : St} {r : Ex × St}, n ≤ m → rounds b n s = some r → rounds b' m s = some r
 | 0, _, _, _, _, h => by simp [rounds] at h
 | n + 1, 0, _, _, hl, _ => by omega
 | n + 1, m + 1, s, r, hl, h => by
  simp only [rounds] at h ⊢
  split at h
  ·rename_i s' h1
   rw [hb _ _ h1]
   exact wZh hb (by omega) h
  ·rename_i hn
   rw [hb _ _ h]
   split
   ·rename_i s' e
    cases e
    exact absurd h (hn _)
   ·rfl
theorem wZ4 {f : V} {env : List V} {ps : List Nat} {asg body : Cc} {df : Nat} {h1 : Heap} {m1 : List Nat} {r : Ex × St} (h : evEnter c f env ps asg body df h1 m1 = some r) :
  evEnter d f env ps asg body df h1 m1 = some r := by
 unfold evEnter at h ⊢
 split at h
 ·cases h
 ·rename_i v h2 he
  rw [hcd _ _ _ _ he]
  exact h
theorem vZu {lf lf' : Nat} (hl : lf ≤ lf') {rnd : Option Nat} : ∀ (x : Cc) {s : St} {r : Ex × St}, evCode c lf rnd x s = some r → evCode d lf' rnd x s = some r
 | .skip, s, r, h => h
 | .region ops, s, r, h => by
  simp only [evCode, Option.map_eq_some_iff] at h ⊢
  obtain ⟨s', h, e⟩ := h
  exact ⟨s', ops_mono hcd ops h, e⟩
 | .draw ops af fl, s, r, h => by
  simp only [evCode, Option.map_eq_some_iff] at h ⊢
  obtain ⟨s', h, e⟩ := h
  exact ⟨s', any_mono hcd _ h, e⟩
 | .seq a b, s, r, h => by
  simp only [evCode] at h ⊢
  split at h
  ·rename_i s' h1
   rw [vZu hl a h1]
   exact vZu hl b h
  ·rename_i hn
   rw [vZu hl a h]
   split
   ·rename_i s' e; cases e; exact absurd h (hn _)
   ·rfl
 | .cond x a b, s, r, h => by
  simp only [evCode] at h ⊢
  split at h
  ·rename_i t ht
   split at h
   ·rename_i h1; rw [if_pos h1]; exact vZu hl a h
   ·rename_i h1; rw [if_neg h1]; exact vZu hl b h
  ·cases h
 | .block id a, s, r, h => by
  simp only [evCode] at h ⊢
  split at h
  ·rename_i i s' h1
   rw [vZu hl a h1]
   exact h
  ·rename_i hn
   rw [vZu hl a h]
   split
   ·rename_i i s' e; cases e; exact absurd h (hn _ _)
   ·rfl
 | .loop a, s, r, h => by
  simp only [evCode] at h ⊢
  exact wZh (fun s r => vZu hl a) hl h
 | .exit id, s, r, h => h
 | .ret, s, r, h => h
 | .rfunc f ps asg body, s, r, h => by
  simp only [evCode] at h ⊢
  split at h
  ·rename_i g first caps hf
   split at h
   ·exact wZ4 hcd h
   ·rename_i l
    split at h
    ·rename_i df ho
     exact wZ4 hcd h
    ·cases h
  ·cases h
theorem body_mono {lf lf' : Nat} (hl : lf ≤ lf') {cf : Cf} {args : List V} {h : Heap} {r : V × Heap} (hh : evBody c lf cf args h = some r) : evBody d lf' cf args h = some r := by
 unfold evBody at hh ⊢
 obtain ⟨hnt, hh⟩ := vZn hh
 rw [if_neg hnt]
 split at hh
 ·cases hh
 ·rename_i e s hne he
  rw [vZu hcd hl _ he]
  split
  ·rename_i i s' e'; cases e'; exact absurd rfl (hne _)
  ·rename_i e' s' hne' e''
   cases e''
   exact hh
  ·rename_i e'; cases e'
 ·cases hh
end mono
theorem jZy {Φ : Nat → Option Cf} : ∀ {n m : Nat}, n ≤ m → CLe (evCall Φ n) (evCall Φ m)
 | 0, _, _ => fun f a h r hh => by simp [evCall] at hh
 | n + 1, 0, hl => by omega
 | n + 1, m + 1, hl => fun f a h r hh => by
  have ih := jZy (Φ := Φ) (show n ≤ m by omega)
  have hl' : n ≤ m := by omega
  cases f
  case fn f first caps =>
   cases f
   case func f =>
    simp only [evCall] at hh ⊢
    split at hh
    ·cases hh
    ·rename_i cf hcf
     split at hh
     ·rename_i hp
      rw [if_pos hp]
      split at hh
      ·cases hh
      ·rename_i as h1 hm
       try (rw [hm]; simp only)
       split at hh
       ·cases hh
       ·rename_i r' h2 hb
        rw [body_mono ih hl' hb]
        exact hh
     ·rename_i hp
      rw [if_neg hp]
      exact body_mono ih hl' hh
   case yield l =>
    simp only [evCall] at hh ⊢
    split at hh
    case h_2 => cases hh
    rename_i pend env ps asg body df hob
    obtain ⟨hlen, hh⟩ := zZN hh
    rw [if_pos hlen]
    split at hh
    case h_2 => cases hh
    rename_i s1 hs1
    rw [vZu ih hl' _ hs1]
    simp only
    split at hh
    case h_2 => cases hh
    rename_i hob1
    try (rw [hob1]; simp only)
    split at hh
    case h_2 => cases hh
    rename_i e s2 hs2
    rw [vZu ih hl' _ hs2]
    exact hh
   all_goals simp [evCall] at hh
  all_goals simp [evCall] at hh
open Classical in
noncomputable def roundsW (b : St → Option (Ex × St)) (s : St) : Option (Ex × St) :=
 if h : ∃ n r, rounds b n s = some r then some (Classical.choose (Classical.choose_spec h)) else none
theorem wZ9 {b : St → Option (Ex × St)} {s : St} {n : Nat} {r : Ex × St} (h : rounds b n s = some r) : roundsW b s = some r := by
 unfold roundsW
 have hex : ∃ n r, rounds b n s = some r := ⟨n, r, h⟩
 rw [dif_pos hex]
 have h2 := Classical.choose_spec (Classical.choose_spec hex)
 have a1 := wZh (fun s r h => h) (Nat.le_max_left n (Classical.choose hex)) h
 have a2 := wZh (fun s r h => h) (Nat.le_max_right n (Classical.choose hex)) h2
 rw [a1] at a2
 exact a2.symm
theorem wZn {b : St → Option (Ex × St)} {s : St} {r : Ex × St} (h : roundsW b s = some r) : ∃ n, rounds b n s = some r := by
 unfold roundsW at h
 split at h
 ·rename_i hex
  have h2 := Classical.choose_spec (Classical.choose_spec hex)
  rw [h] at h2
  exact ⟨_, h2⟩
 ·cases h
theorem kZe (b : St → Option (Ex × St)) (s : St) : roundsW b s = (match b s with
  | some (.normal, s') => roundsW b s'
  | r => r) := by
 cases hb : b s with
 | none =>
  simp only
  cases hr : roundsW b s with
  | none => rfl
  | some r =>
   obtain ⟨n, hn⟩ := wZn hr
   cases n with
   | zero => simp [rounds] at hn
   | succ n => simp [rounds, hb] at hn
 | some p =>
  obtain ⟨e, s'⟩ := p
  cases e with
  | normal =>
   simp only
   cases hr : roundsW b s' with
   | some r =>
    obtain ⟨n, hn⟩ := wZn hr
    exact wZ9 (n := n + 1) (by simp [rounds, hb, hn])
   | none =>
    cases hs : roundsW b s with
    | none => rfl
    | some r =>
     obtain ⟨n, hn⟩ := wZn hs
     cases n with
     | zero => simp [rounds] at hn
     | succ n =>
      simp only [rounds, hb] at hn
      rw [wZ9 hn] at hr
      cases hr
  | exit i => exact wZ9 (n := 1) (by simp [rounds, hb])
  | ret => exact wZ9 (n := 1) (by simp [rounds, hb])
noncomputable def evCodeW (call : CallF) (rnd : Option Nat) : Cc → St → Option (Ex × St)
 | .skip, s => some (.normal, s)
 | .region ops, s => (evOps call ops s).map fun s' => (.normal, s')
 | .draw ops af fl, s =>
  (evAny call ops af (if rnd.isNone then fl else []) ops.length (List.replicate ops.length false) s).map fun s' => (.normal, s')
 | .seq a b, s =>
  match evCodeW call rnd a s with
  | some (.normal, s') => evCodeW call rnd b s'
  | r => r
 | .cond c a b, s =>
  match c.ev s.env with
  | .bool t => if t then evCodeW call rnd a s else evCodeW call rnd b s
  | _ => none
 | .block id c, s =>
  match evCodeW call rnd c s with
  | some (.exit i, s') => some (if i = id then .normal else .exit i, s')
  | r => r
 | .loop c, s => roundsW (evCodeW call rnd c) s
 | .exit id, s => some (.exit id, s)
 | .ret, s => some (.ret, s)
 | .rfunc f ps asg body, s =>
  match f.ev s.env with
  | .fn (.func g) first caps =>
   match rnd with
   | none => evEnter call (.fn (.func g) first caps) s.env ps asg body s.heap.length (s.heap ++ [Ob.defr false]) (s.heap.length :: s.marks)
   | some l =>
    match s.heap[l]? with
    | some (.loop _ _ _ _ _ _ df) => evEnter call (.fn (.func g) first caps) s.env ps asg body df s.heap s.marks
    | _ => none
  | _ => none
noncomputable def evBodyW (call : CallF) (cf : Cf) (args : List V) (h : Heap) : Option (V × Heap) :=
 if cf.ntmps < args.length then none else
 match evCodeW call none cf.body { env := args ++ List.replicate (cf.ntmps - args.length) V.non, marks := [], heap := h } with
 | some (.exit _, _) => none
 | some (_, s) =>
  match takeMarks s.heap s.marks with
  | none => none
  | some h1 =>
   match evRes s.env h1 cf.results with
   | some [v] => some (v, h1)
   | some vs => some (.tup vs, h1)
   | none => none
 | none => none
open Classical in
noncomputable def callW (Φ : Nat → Option Cf) : CallF := fun f a h =>
 if hh : ∃ n r, evCall Φ n f a h = some r then some (Classical.choose (Classical.choose_spec hh)) else none
section limit
variable {Φ : Nat → Option Cf}
theorem jZx {n : Nat} {f : V} {a : List V} {h : Heap} {r : V × Heap} (hh : evCall Φ n f a h = some r) : callW Φ f a h = some r := by
 unfold callW
 have hex : ∃ n r, evCall Φ n f a h = some r := ⟨n, r, hh⟩
 rw [dif_pos hex]
 have h2 := Classical.choose_spec (Classical.choose_spec hex)
 have a1 := jZy (Φ := Φ) (Nat.le_max_left n (Classical.choose hex)) _ _ _ _ hh
 have a2 := jZy (Φ := Φ) (Nat.le_max_right n (Classical.choose hex)) _ _ _ _ h2
 rw [a1] at a2
 exact a2.symm
theorem jZX {f : V} {a : List V} {h : Heap} {r : V × Heap} (hh : callW Φ f a h = some r) : ∃ n, evCall Φ n f a h = some r := by
 unfold callW at hh
 split at hh
 ·rename_i hex
  have h2 := Classical.choose_spec (Classical.choose_spec hex)
  rw [hh] at h2
  exact ⟨_, h2⟩
 ·cases hh
def Soon (p : Nat → Prop) : Prop := ∃ n, ∀ m, n ≤ m → p m
theorem Soon.and {p q : Nat → Prop} (hp : Soon p) (hq : Soon q) : Soon fun n => p n ∧ q n := by
 obtain ⟨a, ha⟩ := hp
 obtain ⟨b, hb⟩ := hq
 exact ⟨max a b, fun m hm => ⟨ha m (by omega), hb m (by omega)⟩⟩
theorem Soon.imp {p q : Nat → Prop} (h : ∀ n, p n → q n) (hp : Soon p) : Soon q := by
 obtain ⟨a, ha⟩ := hp
 exact ⟨a, fun m hm => h m (ha m hm)⟩
theorem Soon.of {p : Prop} (h : p) : Soon fun _ => p := ⟨0, fun _ _ => h⟩
theorem call_soon {f : V} {a : List V} {h : Heap} {r : V × Heap} (hh : callW Φ f a h = some r) : Soon fun n => evCall Φ n f a h = some r := by
 obtain ⟨n, hn⟩ := jZX hh
 exact ⟨n, fun m hm => jZy hm _ _ _ _ hn⟩
theorem cp_soon {o : Cp} {s s' : St} (h : evCp (callW Φ) o s = some s') : Soon fun n => evCp (evCall Φ n) o s = some s' := by
 unfold evCp at h ⊢
 split at h
 ·rename_i hw
  split at h
  ·rename_i f args hop
   simp only [fS_eq] at h ⊢
   split at h
   ·rename_i v h' he
    refine Soon.imp (fun n hn => ?_) (call_soon he)
    rw [hn]
    exact h
   ·cases h
  ·exact Soon.of h
 ·rename_i hw; exact Soon.of h
 ·cases h
theorem ops_soon : ∀ (ops : List Cp) {s s' : St}, evOps (callW Φ) ops s = some s' → Soon fun n => evOps (evCall Φ n) ops s = some s'
 | [], s, s', h => Soon.of h
 | o :: r, s, s', h => by
  simp only [evOps] at h ⊢
  split at h
  ·rename_i s1 h1
   refine Soon.imp (fun n hn => ?_) (Soon.and (cp_soon h1) (ops_soon r h))
   rw [hn.1]
   exact hn.2
  ·cases h
theorem all_soon {α : Type} {p : Nat → α → Prop} : ∀ (l : List α), (∀ x ∈ l, Soon fun n => p n x) → Soon fun n => ∀ x ∈ l, p n x
 | [], _ => ⟨0, fun _ _ x hx => by cases hx⟩
 | a :: l, h => by
  refine Soon.imp (fun n hn => ?_) (Soon.and (h a (by simp)) (all_soon l fun x hx => h x (by simp [hx])))
  intro x hx
  rcases List.mem_cons.1 hx with rfl | hx
  ·exact hn.1
  ·exact hn.2 x hx
theorem any_soon {ops : List Cp} {af : List (List Nat)} {fl : List Nat} : ∀ (f : Nat) {listed : List Bool} {s s' : St}, evAny (callW Φ) ops af fl f listed s = some s' → Soon fun n => evAny (evCall Φ n) ops af fl f listed s = some s'
 | 0, listed, s, s', h => Soon.of h
 | f + 1, listed, s, s', h => by
  simp only [wZs] at h ⊢
  have run : ∀ j s1, evRun (callW Φ) ops af fl f listed s j = some s1 → Soon fun n => evRun (evCall Φ n) ops af fl f listed s j = some s1 := by
   intro j s1 hj
   unfold evRun at hj ⊢
   split at hj
   ·rename_i o ho
    split at hj
    ·rename_i s2 h2
     refine Soon.imp (fun n hn => ?_) (Soon.and (cp_soon h2) (any_soon f hj))
     rw [hn.1]
     exact hn.2
    ·cases hj
   ·cases hj
  split at h
  ·exact Soon.of h
  ·rename_i i is hr
   split at h
   ·rename_i j hj
    exact run _ _ h
   ·rename_i hj
    split at h
    ·rename_i r hri
     obtain ⟨hall, hh⟩ := qZR h
     rw [List.all_eq_true] at hall
     have h3 : Soon fun n => ∀ k ∈ is, beqO (evRun (evCall Φ n) ops af fl f listed s k) r = true := by
      refine all_soon _ fun k hk => ?_
      have := hall k hk
      unfold beqO at this
      split at this
      ·rename_i r' hr'
       refine Soon.imp (fun n hn => ?_) (run _ _ hr')
       rw [hn]
       exact this
      ·cases this
     refine Soon.imp (fun n hn => ?_) (Soon.and (run _ _ hri) h3)
     rw [hn.1]
     simp only
     rw [if_pos, hh]
     rw [List.all_eq_true]
     exact hn.2
    ·cases h
theorem xZV {f : V} {env : List V} {ps : List Nat} {asg body : Cc} {df : Nat} {h1 : Heap} {m1 : List Nat} {r : Ex × St} (h : evEnter (callW Φ) f env ps asg body df h1 m1 = some r) :
  Soon fun n => evEnter (evCall Φ n) f env ps asg body df h1 m1 = some r := by
 unfold evEnter at h ⊢
 split at h
 ·cases h
 ·rename_i v h2 he
  refine Soon.imp (fun n hn => ?_) (call_soon he)
  rw [hn]
  exact h
theorem rounds_soon {b : St → Option (Ex × St)} {b' : Nat → St → Option (Ex × St)} (hb : ∀ s r, b s = some r → Soon fun n => b' n s = some r) : ∀ {k : Nat} {s : St} {r : Ex × St}, rounds b k s = some r → Soon fun n => rounds (b' n) n s = some r
 | 0, s, r, h => by simp [rounds] at h
 | k + 1, s, r, h => by
  have key : ∀ {k : Nat} {s : St} {r : Ex × St}, rounds b k s = some r → Soon fun n => rounds (b' n) k s = some r := by
   intro k
   induction k with
   | zero => intro s r h; simp [rounds] at h
   | succ k ih =>
    intro s r h
    simp only [rounds] at h ⊢
    split at h
    ·rename_i s' h1
     refine Soon.imp (fun n hn => ?_) (Soon.and (hb _ _ h1) (ih h))
     rw [hn.1]
     exact hn.2
    ·rename_i hn
     refine Soon.imp (fun n hn' => ?_) (hb _ _ h)
     rw [hn']
     split
     ·rename_i s' e; cases e; exact absurd h (hn _)
     ·rfl
  obtain ⟨n, hn⟩ := key h
  refine ⟨max n (k + 1), fun m hm => ?_⟩
  exact wZh (fun s r h => h) (show k + 1 ≤ m by omega) (hn m (by omega))
theorem vZv {rnd : Option Nat} : ∀ (x : Cc) {s : St} {r : Ex × St}, evCodeW (callW Φ) rnd x s = some r → Soon fun n => evCode (evCall Φ n) n rnd x s = some r
 | .skip, s, r, h => Soon.of h
 | .region ops, s, r, h => by
  simp only [evCodeW, Option.map_eq_some_iff] at h
  obtain ⟨s', h, e⟩ := h
  refine Soon.imp (fun n hn => ?_) (ops_soon ops h)
  simp only [evCode, hn, Option.map_some, e]
 | .draw ops af fl, s, r, h => by
  simp only [evCodeW, Option.map_eq_some_iff] at h
  obtain ⟨s', h, e⟩ := h
  refine Soon.imp (fun n hn => ?_) (any_soon _ h)
  simp only [evCode, hn, Option.map_some, e]
 | .seq a b, s, r, h => by
  simp only [evCodeW] at h
  split at h
  ·rename_i s' h1
   refine Soon.imp (fun n hn => ?_) (Soon.and (vZv a h1) (vZv b h))
   simp only [evCode]
   rw [hn.1]
   exact hn.2
  ·rename_i hne
   refine Soon.imp (fun n hn => ?_) (vZv a h)
   simp only [evCode]
   rw [hn]
   split
   ·rename_i s' e; cases e; exact absurd h (hne _)
   ·rfl
 | .cond x a b, s, r, h => by
  simp only [evCodeW] at h
  simp only [evCode]
  split at h
  ·rename_i t ht
   simp only [ht]
   split at h
   ·rename_i h1; simp only [if_pos h1]; exact vZv a h
   ·rename_i h1; simp only [if_neg h1]; exact vZv b h
  ·cases h
 | .block id a, s, r, h => by
  simp only [evCodeW] at h
  simp only [evCode]
  split at h
  ·rename_i i s' h1
   refine Soon.imp (fun n hn => ?_) (vZv a h1)
   rw [hn]
   exact h
  ·rename_i hne
   refine Soon.imp (fun n hn => ?_) (vZv a h)
   rw [hn]
   split
   ·rename_i i s' e; cases e; exact absurd h (hne _ _)
   ·rfl
 | .loop a, s, r, h => by
  simp only [evCodeW] at h
  obtain ⟨k, hk⟩ := wZn h
  simp only [evCode]
  exact rounds_soon (b' := fun n => evCode (evCall Φ n) n rnd a) (fun s r h => vZv a h) hk
 | .exit id, s, r, h => Soon.of h
 | .ret, s, r, h => Soon.of h
 | .rfunc f ps asg body, s, r, h => by
  simp only [evCodeW] at h
  simp only [evCode]
  split at h
  ·rename_i g first caps hf
   simp only [hf]
   split at h
   ·exact xZV h
   ·rename_i l
    split at h
    ·rename_i df ho
     simp only [ho]
     exact xZV h
    ·cases h
  ·cases h
theorem body_soon {cf : Cf} {args : List V} {h : Heap} {r : V × Heap} (hh : evBodyW (callW Φ) cf args h = some r) : Soon fun n => evBody (evCall Φ n) n cf args h = some r := by
 unfold evBodyW at hh
 obtain ⟨hnt, hh⟩ := vZn hh
 split at hh
 ·cases hh
 ·rename_i e s hne he
  refine Soon.imp (fun n hn => ?_) (vZv _ he)
  unfold evBody
  rw [if_neg hnt, hn]
  split
  ·rename_i i s' e'; cases e'; exact absurd rfl (hne _)
  ·rename_i e' s' hne' e''
   cases e''
   exact hh
  ·rename_i e'; cases e'
 ·cases hh
theorem jZW {f : FuncId} {cf : Cf} (hf : Φ f = some cf) (hp : cf.pure = true) {first caps args as : List V} {h h1 h2 h3 : Heap} {r r' : V} (hm : mapH (fz fzDepth) h (first ++ args ++ caps) = some (as, h1))
  (hb : evBodyW (callW Φ) cf as [] = some (r, h2)) (hz : fz fzDepth h2 r = some (r', h3)) : callW Φ (.fn (.func f) first caps) args h = some (r', h1) := by
 obtain ⟨n, hn⟩ := body_soon hb
 refine jZx (n := n + 1) ?_
 simp only [evCall, hf, hp, if_true, hm, hn n (Nat.le_refl _), hz, Option.map_some]
theorem kZW {f : FuncId} {cf : Cf} (hf : Φ f = some cf) (hp : cf.pure = false) {first caps args : List V} {h : Heap} {r : V × Heap}
  (hb : evBodyW (callW Φ) cf (first ++ args ++ caps) h = some r) : callW Φ (.fn (.func f) first caps) args h = some r := by
 obtain ⟨n, hn⟩ := body_soon hb
 refine jZx (n := n + 1) ?_
 simp only [evCall, hf, hp, Bool.false_eq_true, if_false, hn n (Nat.le_refl _)]
theorem callW_yield {l : Nat} {first caps args : List V} {h : Heap} {pend : Option Ex} {env : List V} {ps : List Nat} {asg body : Cc} {df : Nat} (ho : h[l]? = some (.loop .ready pend env ps asg body df)) (hl : args.length = ps.length)
  {s1 : St} (h1 : evCodeW (callW Φ) (some l) asg { env := setMany env ps args, marks := [], heap := h } = some (.normal, s1))
  {pend' : Option Ex} {env' : List V} {ps' : List Nat} {asg' body' : Cc} {df' : Nat} (ho1 : s1.heap[l]? = some (.loop .ready pend' env' ps' asg' body' df'))
  {e : Ex} {s2 : St} (h2 : evCodeW (callW Φ) (some l) body { s1 with heap := s1.heap.set l (.loop .busy pend' env' ps' asg' body' df') } = some (e, s2))
  {st2 : LoopState} {pend2 : Option Ex} {env2 : List V} {ps2 : List Nat} {asg2 body2 : Cc} {df2 : Nat} (ho2 : s2.heap[l]? = some (.loop st2 pend2 env2 ps2 asg2 body2 df2)) :
  callW Φ (.fn (.yield l) first caps) args h = some (match e with
   | .normal => (.bool true, s2.heap.set l (.loop .ready none env2 ps2 asg2 body2 df2))
   | e => (.bool false, s2.heap.set l (.loop .done (some e) env2 ps2 asg2 body2 df2))) := by
 obtain ⟨n, hn⟩ := Soon.and (vZv _ h1) (vZv _ h2)
 refine jZx (n := n + 1) ?_
 obtain ⟨a, b⟩ := hn n (Nat.le_refl _)
 simp only [evCall, ho, hl, if_true, a, ho1, b, ho2]
 cases e <;> rfl
end limit
end Go.Ev
