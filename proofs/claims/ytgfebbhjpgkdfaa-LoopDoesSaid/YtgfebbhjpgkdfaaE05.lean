/- The evaluator, part 5: The evaluator without a count: what it answers at some depth. What an argument's reading says, as a tree; a call from above. Rules for running code on values that are not known. No conditions. -/
import Derived.Test.YtgfebbhjpgkdfaaE04
import Derived.RowKit
namespace Go.Ev
set_option linter.unusedVariables false
set_option linter.unusedSectionVars false
set_option linter.unusedSimpArgs false

/-- What one answers, the other does. -/
def CLe (c d : CallF) : Prop := ∀ f a h r, c f a h = some r → d f a h = some r

theorem CLe.refl (c : CallF) : CLe c c := fun _ _ _ _ h => h

/-- One of those that come next, then the rest. -/
noncomputable def evRun (call : CallF) (ops : List Cp) (af : List (List Nat)) (fl : List Nat) (f : Nat) (listed : List Bool) (s : St) (j : Nat) : Option St :=
  match ops[j]? with
  | some o =>
    match evCp call o s with
    | some s' => evAny call ops af fl f (listed.set j true) s'
    | none => none
  | none => none

noncomputable def beqO (a : Option St) (r : St) : Bool :=
  match a with
  | some r' => sameSt r' r
  | none => false

theorem evAny_succ (call : CallF) (ops : List Cp) (af : List (List Nat)) (fl : List Nat) (f : Nat) (listed : List Bool) (s : St) : evAny call ops af fl (f + 1) listed s =
    (match readyL ops.length af listed with
    | [] => some s
    | i :: is =>
      match (i :: is).find? fl.contains with
      | some j => evRun call ops af fl f listed s j
      | none =>
        match evRun call ops af fl f listed s i with
        | some r => if is.all (fun j => beqO (evRun call ops af fl f listed s j) r) then some r else none
        | none => none) := rfl

section mono
variable {c d : CallF} (hcd : CLe c d)
include hcd

theorem cp_mono {o : Cp} {s s' : St} (h : evCp c o s = some s') : evCp d o s = some s' := by
  unfold evCp at h ⊢
  split
  · rename_i hw
    rw [hw] at h
    simp only at h
    split
    · rename_i f args hop
      rw [hop] at h
      simp only [fS_eq] at h ⊢
      split at h
      · rename_i v h' he
        rw [hcd _ _ _ _ he]
        exact h
      · cases h
    · rename_i hop
      split at h
      · rename_i f args e; exact absurd e (hop f args)
      · exact h
  · rename_i hw; rw [hw] at h; exact h
  · rename_i hw; rw [hw] at h; exact h

theorem ops_mono : ∀ (ops : List Cp) {s s' : St}, evOps c ops s = some s' → evOps d ops s = some s'
  | [], s, s', h => h
  | o :: r, s, s', h => by
    simp only [evOps] at h ⊢
    split at h
    · rename_i s1 h1
      rw [cp_mono hcd h1]
      exact ops_mono r h
    · cases h

theorem any_mono {ops : List Cp} {af : List (List Nat)} {fl : List Nat} : ∀ (f : Nat) {listed : List Bool} {s s' : St}, evAny c ops af fl f listed s = some s' → evAny d ops af fl f listed s = some s'
  | 0, listed, s, s', h => h
  | f + 1, listed, s, s', h => by
    rw [evAny_succ] at h ⊢
    have run : ∀ j s1, evRun c ops af fl f listed s j = some s1 → evRun d ops af fl f listed s j = some s1 := by
      intro j s1 hj
      unfold evRun at hj ⊢
      split at hj
      · rename_i o ho
        split at hj
        · rename_i s2 h2
          rw [cp_mono hcd h2]
          exact any_mono f hj
        · cases hj
      · cases hj
    split
    · rename_i hr
      rw [hr] at h
      exact h
    · rename_i i is hr
      rw [hr] at h
      simp only at h
      split
      · rename_i j hj
        rw [hj] at h
        exact run _ _ h
      · rename_i hj
        rw [hj] at h
        simp only at h
        split at h
        · rename_i r hri
          obtain ⟨hall, hh⟩ := ite_some h
          rw [run _ _ hri]
          simp only
          rw [if_pos, hh]
          rw [List.all_eq_true] at hall ⊢
          intro k hk
          have := hall k hk
          unfold beqO at this ⊢
          split at this
          · rename_i r' hr'
            rw [run _ _ hr']
            exact this
          · cases this
        · cases h

omit hcd in
theorem rounds_mono {b b' : St → Option (Ex × St)} (hb : ∀ s r, b s = some r → b' s = some r) : ∀ {n m : Nat} {s : St} {r : Ex × St}, n ≤ m → rounds b n s = some r → rounds b' m s = some r
  | 0, _, _, _, _, h => by simp [rounds] at h
  | n + 1, 0, _, _, hl, _ => by omega
  | n + 1, m + 1, s, r, hl, h => by
    simp only [rounds] at h ⊢
    split at h
    · rename_i s' h1
      rw [hb _ _ h1]
      exact rounds_mono hb (by omega) h
    · rename_i hn
      rw [hb _ _ h]
      split
      · rename_i s' e
        cases e
        exact absurd h (hn _)
      · rfl

theorem enter_mono {f : V} {env : List V} {ps : List Nat} {asg body : Cc} {df : Nat} {h1 : Heap} {m1 : List Nat} {r : Ex × St} (h : evEnter c f env ps asg body df h1 m1 = some r) :
    evEnter d f env ps asg body df h1 m1 = some r := by
  unfold evEnter at h ⊢
  split at h
  · cases h
  · rename_i v h2 he
    rw [hcd _ _ _ _ he]
    exact h

theorem code_mono {lf lf' : Nat} (hl : lf ≤ lf') {rnd : Option Nat} : ∀ (x : Cc) {s : St} {r : Ex × St}, evCode c lf rnd x s = some r → evCode d lf' rnd x s = some r
  | .skip, s, r, h => h
  | .region ops, s, r, h => by
    simp only [evCode, Option.map_eq_some_iff] at h ⊢
    obtain ⟨s', h, e⟩ := h
    exact ⟨s', ops_mono hcd ops h, e⟩
  | .draw ops af fl, s, r, h => by
    simp only [evCode, Option.map_eq_some_iff] at h ⊢
    obtain ⟨s', h, e⟩ := h
    exact ⟨s', any_mono hcd _ h, e⟩
  | .seq a b, s, r, h => by
    simp only [evCode] at h ⊢
    split at h
    · rename_i s' h1
      rw [code_mono hl a h1]
      exact code_mono hl b h
    · rename_i hn
      rw [code_mono hl a h]
      split
      · rename_i s' e; cases e; exact absurd h (hn _)
      · rfl
  | .cond x a b, s, r, h => by
    simp only [evCode] at h ⊢
    split at h
    · rename_i t ht
      split at h
      · rename_i h1; rw [if_pos h1]; exact code_mono hl a h
      · rename_i h1; rw [if_neg h1]; exact code_mono hl b h
    · cases h
  | .block id a, s, r, h => by
    simp only [evCode] at h ⊢
    split at h
    · rename_i i s' h1
      rw [code_mono hl a h1]
      exact h
    · rename_i hn
      rw [code_mono hl a h]
      split
      · rename_i i s' e; cases e; exact absurd h (hn _ _)
      · rfl
  | .loop a, s, r, h => by
    simp only [evCode] at h ⊢
    exact rounds_mono (fun s r => code_mono hl a) hl h
  | .exit id, s, r, h => h
  | .ret, s, r, h => h
  | .rfunc f ps asg body, s, r, h => by
    simp only [evCode] at h ⊢
    split at h
    · rename_i g first caps hf
      split at h
      · exact enter_mono hcd h
      · rename_i l
        split at h
        · rename_i df ho
          exact enter_mono hcd h
        · cases h
    · cases h

theorem body_mono {lf lf' : Nat} (hl : lf ≤ lf') {cf : Cf} {args : List V} {h : Heap} {r : V × Heap} (hh : evBody c lf cf args h = some r) : evBody d lf' cf args h = some r := by
  unfold evBody at hh ⊢
  obtain ⟨hnt, hh⟩ := ite_none' hh
  rw [if_neg hnt]
  split at hh
  · cases hh
  · rename_i e s hne he
    rw [code_mono hcd hl _ he]
    split
    · rename_i i s' e'; cases e'; exact absurd rfl (hne _)
    · rename_i e' s' hne' e''
      cases e''
      exact hh
    · rename_i e'; cases e'
  · cases hh
end mono

theorem call_mono {Φ : Nat → Option Cf} : ∀ {n m : Nat}, n ≤ m → CLe (evCall Φ n) (evCall Φ m)
  | 0, _, _ => fun f a h r hh => by simp [evCall] at hh
  | n + 1, 0, hl => by omega
  | n + 1, m + 1, hl => fun f a h r hh => by
    have ih := call_mono (Φ := Φ) (show n ≤ m by omega)
    have hl' : n ≤ m := by omega
    cases f
    case fn f first caps =>
      cases f
      case func f =>
        simp only [evCall] at hh ⊢
        split at hh
        · cases hh
        · rename_i cf hcf
          split at hh
          · rename_i hp
            rw [if_pos hp]
            split at hh
            · cases hh
            · rename_i as h1 hm
              try (rw [hm]; simp only)
              split at hh
              · cases hh
              · rename_i r' h2 hb
                rw [body_mono ih hl' hb]
                exact hh
          · rename_i hp
            rw [if_neg hp]
            exact body_mono ih hl' hh
      case yield l =>
        simp only [evCall] at hh ⊢
        split at hh
        case h_2 => cases hh
        rename_i pend env ps asg body df hob
        obtain ⟨hlen, hh⟩ := ite_some' hh
        rw [if_pos hlen]
        split at hh
        case h_2 => cases hh
        rename_i s1 hs1
        rw [code_mono ih hl' _ hs1]
        simp only
        split at hh
        case h_2 => cases hh
        rename_i hob1
        try (rw [hob1]; simp only)
        split at hh
        case h_2 => cases hh
        rename_i e s2 hs2
        rw [code_mono ih hl' _ hs2]
        exact hh
      all_goals simp [evCall] at hh
    all_goals simp [evCall] at hh

open Classical in
/-- A loop, however many rounds. -/
noncomputable def roundsW (b : St → Option (Ex × St)) (s : St) : Option (Ex × St) :=
  if h : ∃ n r, rounds b n s = some r then some (Classical.choose (Classical.choose_spec h)) else none

theorem roundsW_of {b : St → Option (Ex × St)} {s : St} {n : Nat} {r : Ex × St} (h : rounds b n s = some r) : roundsW b s = some r := by
  unfold roundsW
  have hex : ∃ n r, rounds b n s = some r := ⟨n, r, h⟩
  rw [dif_pos hex]
  have h2 := Classical.choose_spec (Classical.choose_spec hex)
  have a1 := rounds_mono (fun s r h => h) (Nat.le_max_left n (Classical.choose hex)) h
  have a2 := rounds_mono (fun s r h => h) (Nat.le_max_right n (Classical.choose hex)) h2
  rw [a1] at a2
  exact a2.symm

theorem roundsW_some {b : St → Option (Ex × St)} {s : St} {r : Ex × St} (h : roundsW b s = some r) : ∃ n, rounds b n s = some r := by
  unfold roundsW at h
  split at h
  · rename_i hex
    have h2 := Classical.choose_spec (Classical.choose_spec hex)
    rw [h] at h2
    exact ⟨_, h2⟩
  · cases h

/-- A loop: one round, then the rest. -/
theorem roundsW_eq (b : St → Option (Ex × St)) (s : St) : roundsW b s = (match b s with
    | some (.normal, s') => roundsW b s'
    | r => r) := by
  cases hb : b s with
  | none =>
    simp only
    cases hr : roundsW b s with
    | none => rfl
    | some r =>
      obtain ⟨n, hn⟩ := roundsW_some hr
      cases n with
      | zero => simp [rounds] at hn
      | succ n => simp [rounds, hb] at hn
  | some p =>
    obtain ⟨e, s'⟩ := p
    cases e with
    | normal =>
      simp only
      cases hr : roundsW b s' with
      | some r =>
        obtain ⟨n, hn⟩ := roundsW_some hr
        exact roundsW_of (n := n + 1) (by simp [rounds, hb, hn])
      | none =>
        cases hs : roundsW b s with
        | none => rfl
        | some r =>
          obtain ⟨n, hn⟩ := roundsW_some hs
          cases n with
          | zero => simp [rounds] at hn
          | succ n =>
            simp only [rounds, hb] at hn
            rw [roundsW_of hn] at hr
            cases hr
    | exit i => exact roundsW_of (n := 1) (by simp [rounds, hb])
    | ret => exact roundsW_of (n := 1) (by simp [rounds, hb])

/-- Code, without a count. -/
noncomputable def evCodeW (call : CallF) (rnd : Option Nat) : Cc → St → Option (Ex × St)
  | .skip, s => some (.normal, s)
  | .region ops, s => (evOps call ops s).map fun s' => (.normal, s')
  | .draw ops af fl, s =>
    (evAny call ops af (if rnd.isNone then fl else []) ops.length (List.replicate ops.length false) s).map fun s' => (.normal, s')
  | .seq a b, s =>
    match evCodeW call rnd a s with
    | some (.normal, s') => evCodeW call rnd b s'
    | r => r
  | .cond c a b, s =>
    match c.ev s.env with
    | .bool t => if t then evCodeW call rnd a s else evCodeW call rnd b s
    | _ => none
  | .block id c, s =>
    match evCodeW call rnd c s with
    | some (.exit i, s') => some (if i = id then .normal else .exit i, s')
    | r => r
  | .loop c, s => roundsW (evCodeW call rnd c) s
  | .exit id, s => some (.exit id, s)
  | .ret, s => some (.ret, s)
  | .rfunc f ps asg body, s =>
    match f.ev s.env with
    | .fn (.func g) first caps =>
      match rnd with
      | none => evEnter call (.fn (.func g) first caps) s.env ps asg body s.heap.length (s.heap ++ [Ob.defr false]) (s.heap.length :: s.marks)
      | some l =>
        match s.heap[l]? with
        | some (.loop _ _ _ _ _ _ df) => evEnter call (.fn (.func g) first caps) s.env ps asg body df s.heap s.marks
        | _ => none
    | _ => none

noncomputable def evBodyW (call : CallF) (cf : Cf) (args : List V) (h : Heap) : Option (V × Heap) :=
  if cf.ntmps < args.length then none else
  match evCodeW call none cf.body { env := args ++ List.replicate (cf.ntmps - args.length) V.non, marks := [], heap := h } with
  | some (.exit _, _) => none
  | some (_, s) =>
    match takeMarks s.heap s.marks with
    | none => none
    | some h1 =>
      match evRes s.env h1 cf.results with
      | some [v] => some (v, h1)
      | some vs => some (.tup vs, h1)
      | none => none
  | none => none

open Classical in
/-- A call, however deep. -/
noncomputable def callW (Φ : Nat → Option Cf) : CallF := fun f a h =>
  if hh : ∃ n r, evCall Φ n f a h = some r then some (Classical.choose (Classical.choose_spec hh)) else none

section limit
variable {Φ : Nat → Option Cf}

theorem callW_of {n : Nat} {f : V} {a : List V} {h : Heap} {r : V × Heap} (hh : evCall Φ n f a h = some r) : callW Φ f a h = some r := by
  unfold callW
  have hex : ∃ n r, evCall Φ n f a h = some r := ⟨n, r, hh⟩
  rw [dif_pos hex]
  have h2 := Classical.choose_spec (Classical.choose_spec hex)
  have a1 := call_mono (Φ := Φ) (Nat.le_max_left n (Classical.choose hex)) _ _ _ _ hh
  have a2 := call_mono (Φ := Φ) (Nat.le_max_right n (Classical.choose hex)) _ _ _ _ h2
  rw [a1] at a2
  exact a2.symm

theorem callW_some {f : V} {a : List V} {h : Heap} {r : V × Heap} (hh : callW Φ f a h = some r) : ∃ n, evCall Φ n f a h = some r := by
  unfold callW at hh
  split at hh
  · rename_i hex
    have h2 := Classical.choose_spec (Classical.choose_spec hex)
    rw [hh] at h2
    exact ⟨_, h2⟩
  · cases hh

/-- Something holds from some depth on. -/
def Soon (p : Nat → Prop) : Prop := ∃ n, ∀ m, n ≤ m → p m

theorem Soon.and {p q : Nat → Prop} (hp : Soon p) (hq : Soon q) : Soon fun n => p n ∧ q n := by
  obtain ⟨a, ha⟩ := hp
  obtain ⟨b, hb⟩ := hq
  exact ⟨max a b, fun m hm => ⟨ha m (by omega), hb m (by omega)⟩⟩
theorem Soon.imp {p q : Nat → Prop} (h : ∀ n, p n → q n) (hp : Soon p) : Soon q := by
  obtain ⟨a, ha⟩ := hp
  exact ⟨a, fun m hm => h m (ha m hm)⟩
theorem Soon.of {p : Prop} (h : p) : Soon fun _ => p := ⟨0, fun _ _ => h⟩

theorem call_soon {f : V} {a : List V} {h : Heap} {r : V × Heap} (hh : callW Φ f a h = some r) : Soon fun n => evCall Φ n f a h = some r := by
  obtain ⟨n, hn⟩ := callW_some hh
  exact ⟨n, fun m hm => call_mono hm _ _ _ _ hn⟩

theorem cp_soon {o : Cp} {s s' : St} (h : evCp (callW Φ) o s = some s') : Soon fun n => evCp (evCall Φ n) o s = some s' := by
  unfold evCp at h ⊢
  split at h
  · rename_i hw
    split at h
    · rename_i f args hop
      simp only [fS_eq] at h ⊢
      split at h
      · rename_i v h' he
        refine Soon.imp (fun n hn => ?_) (call_soon he)
        rw [hn]
        exact h
      · cases h
    · exact Soon.of h
  · rename_i hw; exact Soon.of h
  · cases h

theorem ops_soon : ∀ (ops : List Cp) {s s' : St}, evOps (callW Φ) ops s = some s' → Soon fun n => evOps (evCall Φ n) ops s = some s'
  | [], s, s', h => Soon.of h
  | o :: r, s, s', h => by
    simp only [evOps] at h ⊢
    split at h
    · rename_i s1 h1
      refine Soon.imp (fun n hn => ?_) (Soon.and (cp_soon h1) (ops_soon r h))
      rw [hn.1]
      exact hn.2
    · cases h

theorem all_soon {α : Type} {p : Nat → α → Prop} : ∀ (l : List α), (∀ x ∈ l, Soon fun n => p n x) → Soon fun n => ∀ x ∈ l, p n x
  | [], _ => ⟨0, fun _ _ x hx => by cases hx⟩
  | a :: l, h => by
    refine Soon.imp (fun n hn => ?_) (Soon.and (h a (by simp)) (all_soon l fun x hx => h x (by simp [hx])))
    intro x hx
    rcases List.mem_cons.1 hx with rfl | hx
    · exact hn.1
    · exact hn.2 x hx

theorem any_soon {ops : List Cp} {af : List (List Nat)} {fl : List Nat} : ∀ (f : Nat) {listed : List Bool} {s s' : St}, evAny (callW Φ) ops af fl f listed s = some s' → Soon fun n => evAny (evCall Φ n) ops af fl f listed s = some s'
  | 0, listed, s, s', h => Soon.of h
  | f + 1, listed, s, s', h => by
    simp only [evAny_succ] at h ⊢
    have run : ∀ j s1, evRun (callW Φ) ops af fl f listed s j = some s1 → Soon fun n => evRun (evCall Φ n) ops af fl f listed s j = some s1 := by
      intro j s1 hj
      unfold evRun at hj ⊢
      split at hj
      · rename_i o ho
        split at hj
        · rename_i s2 h2
          refine Soon.imp (fun n hn => ?_) (Soon.and (cp_soon h2) (any_soon f hj))
          rw [hn.1]
          exact hn.2
        · cases hj
      · cases hj
    split at h
    · exact Soon.of h
    · rename_i i is hr
      split at h
      · rename_i j hj
        exact run _ _ h
      · rename_i hj
        split at h
        · rename_i r hri
          obtain ⟨hall, hh⟩ := ite_some h
          rw [List.all_eq_true] at hall
          have h3 : Soon fun n => ∀ k ∈ is, beqO (evRun (evCall Φ n) ops af fl f listed s k) r = true := by
            refine all_soon _ fun k hk => ?_
            have := hall k hk
            unfold beqO at this
            split at this
            · rename_i r' hr'
              refine Soon.imp (fun n hn => ?_) (run _ _ hr')
              rw [hn]
              exact this
            · cases this
          refine Soon.imp (fun n hn => ?_) (Soon.and (run _ _ hri) h3)
          rw [hn.1]
          simp only
          rw [if_pos, hh]
          rw [List.all_eq_true]
          exact hn.2
        · cases h

theorem enter_soon {f : V} {env : List V} {ps : List Nat} {asg body : Cc} {df : Nat} {h1 : Heap} {m1 : List Nat} {r : Ex × St} (h : evEnter (callW Φ) f env ps asg body df h1 m1 = some r) :
    Soon fun n => evEnter (evCall Φ n) f env ps asg body df h1 m1 = some r := by
  unfold evEnter at h ⊢
  split at h
  · cases h
  · rename_i v h2 he
    refine Soon.imp (fun n hn => ?_) (call_soon he)
    rw [hn]
    exact h

theorem rounds_soon {b : St → Option (Ex × St)} {b' : Nat → St → Option (Ex × St)} (hb : ∀ s r, b s = some r → Soon fun n => b' n s = some r) : ∀ {k : Nat} {s : St} {r : Ex × St}, rounds b k s = some r → Soon fun n => rounds (b' n) n s = some r
  | 0, s, r, h => by simp [rounds] at h
  | k + 1, s, r, h => by
    -- so many rounds are enough
    have key : ∀ {k : Nat} {s : St} {r : Ex × St}, rounds b k s = some r → Soon fun n => rounds (b' n) k s = some r := by
      intro k
      induction k with
      | zero => intro s r h; simp [rounds] at h
      | succ k ih =>
        intro s r h
        simp only [rounds] at h ⊢
        split at h
        · rename_i s' h1
          refine Soon.imp (fun n hn => ?_) (Soon.and (hb _ _ h1) (ih h))
          rw [hn.1]
          exact hn.2
        · rename_i hn
          refine Soon.imp (fun n hn' => ?_) (hb _ _ h)
          rw [hn']
          split
          · rename_i s' e; cases e; exact absurd h (hn _)
          · rfl
    obtain ⟨n, hn⟩ := key h
    refine ⟨max n (k + 1), fun m hm => ?_⟩
    exact rounds_mono (fun s r h => h) (show k + 1 ≤ m by omega) (hn m (by omega))

theorem code_soon {rnd : Option Nat} : ∀ (x : Cc) {s : St} {r : Ex × St}, evCodeW (callW Φ) rnd x s = some r → Soon fun n => evCode (evCall Φ n) n rnd x s = some r
  | .skip, s, r, h => Soon.of h
  | .region ops, s, r, h => by
    simp only [evCodeW, Option.map_eq_some_iff] at h
    obtain ⟨s', h, e⟩ := h
    refine Soon.imp (fun n hn => ?_) (ops_soon ops h)
    simp only [evCode, hn, Option.map_some, e]
  | .draw ops af fl, s, r, h => by
    simp only [evCodeW, Option.map_eq_some_iff] at h
    obtain ⟨s', h, e⟩ := h
    refine Soon.imp (fun n hn => ?_) (any_soon _ h)
    simp only [evCode, hn, Option.map_some, e]
  | .seq a b, s, r, h => by
    simp only [evCodeW] at h
    split at h
    · rename_i s' h1
      refine Soon.imp (fun n hn => ?_) (Soon.and (code_soon a h1) (code_soon b h))
      simp only [evCode]
      rw [hn.1]
      exact hn.2
    · rename_i hne
      refine Soon.imp (fun n hn => ?_) (code_soon a h)
      simp only [evCode]
      rw [hn]
      split
      · rename_i s' e; cases e; exact absurd h (hne _)
      · rfl
  | .cond x a b, s, r, h => by
    simp only [evCodeW] at h
    simp only [evCode]
    split at h
    · rename_i t ht
      simp only [ht]
      split at h
      · rename_i h1; simp only [if_pos h1]; exact code_soon a h
      · rename_i h1; simp only [if_neg h1]; exact code_soon b h
    · cases h
  | .block id a, s, r, h => by
    simp only [evCodeW] at h
    simp only [evCode]
    split at h
    · rename_i i s' h1
      refine Soon.imp (fun n hn => ?_) (code_soon a h1)
      rw [hn]
      exact h
    · rename_i hne
      refine Soon.imp (fun n hn => ?_) (code_soon a h)
      rw [hn]
      split
      · rename_i i s' e; cases e; exact absurd h (hne _ _)
      · rfl
  | .loop a, s, r, h => by
    simp only [evCodeW] at h
    obtain ⟨k, hk⟩ := roundsW_some h
    simp only [evCode]
    exact rounds_soon (b' := fun n => evCode (evCall Φ n) n rnd a) (fun s r h => code_soon a h) hk
  | .exit id, s, r, h => Soon.of h
  | .ret, s, r, h => Soon.of h
  | .rfunc f ps asg body, s, r, h => by
    simp only [evCodeW] at h
    simp only [evCode]
    split at h
    · rename_i g first caps hf
      simp only [hf]
      split at h
      · exact enter_soon h
      · rename_i l
        split at h
        · rename_i df ho
          simp only [ho]
          exact enter_soon h
        · cases h
    · cases h

theorem body_soon {cf : Cf} {args : List V} {h : Heap} {r : V × Heap} (hh : evBodyW (callW Φ) cf args h = some r) : Soon fun n => evBody (evCall Φ n) n cf args h = some r := by
  unfold evBodyW at hh
  obtain ⟨hnt, hh⟩ := ite_none' hh
  split at hh
  · cases hh
  · rename_i e s hne he
    refine Soon.imp (fun n hn => ?_) (code_soon _ he)
    unfold evBody
    rw [if_neg hnt, hn]
    split
    · rename_i i s' e'; cases e'; exact absurd rfl (hne _)
    · rename_i e' s' hne' e''
      cases e''
      exact hh
    · rename_i e'; cases e'
  · cases hh

/-- A pure function's call. -/
theorem callW_pure {f : FuncId} {cf : Cf} (hf : Φ f = some cf) (hp : cf.pure = true) {first caps args as : List V} {h h1 h2 h3 : Heap} {r r' : V} (hm : mapH (fz fzDepth) h (first ++ args ++ caps) = some (as, h1))
    (hb : evBodyW (callW Φ) cf as [] = some (r, h2)) (hz : fz fzDepth h2 r = some (r', h3)) : callW Φ (.fn (.func f) first caps) args h = some (r', h1) := by
  obtain ⟨n, hn⟩ := body_soon hb
  refine callW_of (n := n + 1) ?_
  simp only [evCall, hf, hp, if_true, hm, hn n (Nat.le_refl _), hz, Option.map_some]

/-- Another one's. -/
theorem callW_rough {f : FuncId} {cf : Cf} (hf : Φ f = some cf) (hp : cf.pure = false) {first caps args : List V} {h : Heap} {r : V × Heap}
    (hb : evBodyW (callW Φ) cf (first ++ args ++ caps) h = some r) : callW Φ (.fn (.func f) first caps) args h = some r := by
  obtain ⟨n, hn⟩ := body_soon hb
  refine callW_of (n := n + 1) ?_
  simp only [evCall, hf, hp, Bool.false_eq_true, if_false, hn n (Nat.le_refl _)]

/-- A loop's round. -/
theorem callW_yield {l : Nat} {first caps args : List V} {h : Heap} {pend : Option Ex} {env : List V} {ps : List Nat} {asg body : Cc} {df : Nat} (ho : h[l]? = some (.loop .ready pend env ps asg body df)) (hl : args.length = ps.length)
    {s1 : St} (h1 : evCodeW (callW Φ) (some l) asg { env := setMany env ps args, marks := [], heap := h } = some (.normal, s1))
    {pend' : Option Ex} {env' : List V} {ps' : List Nat} {asg' body' : Cc} {df' : Nat} (ho1 : s1.heap[l]? = some (.loop .ready pend' env' ps' asg' body' df'))
    {e : Ex} {s2 : St} (h2 : evCodeW (callW Φ) (some l) body { s1 with heap := s1.heap.set l (.loop .busy pend' env' ps' asg' body' df') } = some (e, s2))
    {st2 : LoopState} {pend2 : Option Ex} {env2 : List V} {ps2 : List Nat} {asg2 body2 : Cc} {df2 : Nat} (ho2 : s2.heap[l]? = some (.loop st2 pend2 env2 ps2 asg2 body2 df2)) :
    callW Φ (.fn (.yield l) first caps) args h = some (match e with
      | .normal => (.bool true, s2.heap.set l (.loop .ready none env2 ps2 asg2 body2 df2))
      | e => (.bool false, s2.heap.set l (.loop .done (some e) env2 ps2 asg2 body2 df2))) := by
  obtain ⟨n, hn⟩ := Soon.and (code_soon _ h1) (code_soon _ h2)
  refine callW_of (n := n + 1) ?_
  obtain ⟨a, b⟩ := hn n (Nat.le_refl _)
  simp only [evCall, ho, hl, if_true, a, ho1, b, ho2]
  cases e <;> rfl
end limit
end Go.Ev

namespace Go.Ev
open Go.RowKit
set_option linter.unusedVariables false
set_option linter.unusedSectionVars false
set_option linter.unusedSimpArgs false

/-- Fields that stand one behind the other. -/
def contig (P : Program) : List Field → Nat → Nat → Bool
  | [], o, n => o == n
  | f :: fs, o, n => f.offset == o && contig P fs (o + P.cellsOf f.type) n

/-- Types of plain data. -/
def plainB (P : Program) : Nat → TypeId → Bool
  | 0, _ => false
  | d + 1, t =>
    match P.underlying t with
    | some .bool | some (.int _) | some .string => true
    | some (.slice e) => P.cellsOf e != 0 && plainB P d e
    | some (.struct fs) => contig P fs.toList 0 (P.cellsOf t) && fs.toList.all fun f => plainB P d f.type
    | _ => false

section
variable {H : Type}
mutual
/-- A reading's cells. -/
def dV : DataW H → List V
  | .lit (.bool b) => [.bool b]
  | .lit (.int k n) => [.int k n]
  | .lit (.string l) => [.str ⟨l.toArray⟩]
  | .nil => [.nils]
  | .slice es sp => [.arr (dVs es)]
  | .agg ps => dVc ps
  | _ => [.undef]
def dVs : List (DataW H) → List (List V)
  | [] => []
  | d :: r => dV d :: dVs r
def dVc : List (DataW H) → List V
  | [] => []
  | d :: r => dV d ++ dVc r
end

/-- A reading of its type. -/
def DT (P : Program) : Nat → TypeId → DataW H → Prop
  | 0, _, _ => False
  | f + 1, t, d =>
    match P.underlying t with
    | some .bool => ∃ b, d = .lit (.bool b)
    | some (.int k) => ∃ n, d = .lit (.int k n) ∧ (Lit.int k n).wf = true
    | some .string => ∃ l, d = .lit (.string l) ∧ l.length ≤ maxLen
    | some (.slice e) => d = .nil ∨ ∃ es sp, d = .slice es sp ∧ es.length ≤ maxLen ∧ ∀ x ∈ es, DT P f e x
    | some (.struct fs) => ∃ ps, d = .agg ps ∧ F2 (fun (x : DataW H) (g : Field) => DT P f g.type x) ps fs.toList
    | _ => False

theorem dVs_eq : ∀ l : List (DataW H), dVs l = l.map dV
  | [] => rfl
  | d :: r => by simp [dVs, dVs_eq r]

/-- All that lies in memory. -/
def Sall (w : World) : Cells := fun b _ => b < w.heap.size

variable {enc : TypeId × Value → H} {P : Program} {W : World} {spare : Nat → Bool} {held : Bool}

theorem F2.len {α γ : Type} {R : α → γ → Prop} : ∀ {as : List α} {cs : List γ}, F2 R as cs → as.length = cs.length
  | [], [], _ => rfl
  | _ :: _, _ :: _, h => by simp [F2.len h.2]
  | [], _ :: _, h => h.elim
  | _ :: _, [], h => h.elim

theorem F2.get {α γ : Type} {R : α → γ → Prop} : ∀ {as : List α} {cs : List γ}, F2 R as cs → ∀ {i : Nat} {c : γ}, cs[i]? = some c → ∃ a, as[i]? = some a ∧ R a c
  | [], [], _, i, c, h => by simp at h
  | a :: as, b :: bs, h, i, c, hi => by
    cases i with
    | zero => simp at hi; subst hi; exact ⟨a, rfl, h.1⟩
    | succ i => simpa using F2.get h.2 (by simpa using hi)
  | [], _ :: _, h, _, _, _ => h.elim
  | _ :: _, [], h, _, _, _ => h.elim

theorem cells?_get {base n : Nat} {a : Addr} {cs : List Value} (h : W.cells? base a n = some cs) : cs.length = n ∧ ∀ j v, cs[j]? = some v → W.cell? (a.add j) = some v := by
  unfold World.cells? at h
  split at h
  · obtain ⟨h1, h2⟩ := mapM_some _ _ _ h
    rw [List.length_range] at h1
    refine ⟨h1, fun j v hv => ?_⟩
    have hj : j < n := by have := (List.getElem?_eq_some_iff.1 hv).1; omega
    exact h2 j j v (by simp [hj]) hv
  · cases h

theorem cell?_spot {a : Addr} {v : Value} (h : W.cell? a = some v) : a.spot = none ∧ a.block < W.heap.size := by
  unfold World.cell? at h
  split at h
  · rename_i hb
    split at h
    · cases h
    · rename_i hs
      exact ⟨by simpa using hs, (Array.getElem?_eq_some_iff.1 hb).1⟩
  · cases h

/-- A reading is what its tree says. -/
theorem trod_tree : ∀ (fuel dep : Nat) (t : TypeId) (cs : List Value) (d : DataW H) (ps : List MemPlace), plainB P dep t = true → DataW.trod enc P W 0 spare held fuel t cs = some (d, ps) →
    RL (Sall W) W noK (dV d) cs ∧ (dV d).all V.isCell = true ∧ DT P dep t d := by
  intro fuel
  induction fuel with
  | zero => intro dep t cs d ps _ h; simp [DataW.trod] at h
  | succ fuel ih =>
    intro dep t cs d ps hp h
    cases dep with
    | zero => simp [plainB] at hp
    | succ dep =>
      simp only [plainB] at hp
      simp only [DT]
      split at hp
      · -- bool
        rename_i ht
        unfold DataW.trod at h
        rw [ht] at h
        rcases cs with _ | ⟨c, _ | ⟨c2, cs⟩⟩
        · simp at h
        · cases c <;> simp at h
          obtain ⟨rfl, rfl⟩ := h
          exact ⟨by simp [dV, RL, RV], by simp [dV, V.isCell], _, rfl⟩
        · cases c <;> simp at h
      · rename_i k ht
        unfold DataW.trod at h
        rw [ht] at h
        rcases cs with _ | ⟨c, _ | ⟨c2, cs⟩⟩
        · simp at h
        · cases c <;> simp at h
          obtain ⟨⟨rfl, hwf⟩, rfl, rfl⟩ := h
          exact ⟨by simp [dV, RL, RV], by simp [dV, V.isCell], _, rfl, hwf⟩
        · cases c <;> simp at h
      · rename_i ht
        unfold DataW.trod at h
        rw [ht] at h
        rcases cs with _ | ⟨c, _ | ⟨c2, cs⟩⟩
        · simp at h
        · cases c <;> simp at h
          obtain ⟨hsz, rfl, rfl⟩ := h
          exact ⟨by simp [dV, RL, RV], by simp [dV, V.isCell], _, rfl, by simpa using hsz⟩
        · cases c <;> simp at h
      · rename_i e ht
        simp only [Bool.and_eq_true, bne_iff_ne, ne_eq] at hp
        obtain ⟨hn0, hpe⟩ := hp
        unfold DataW.trod at h
        rw [ht] at h
        rcases cs with _ | ⟨c, _ | ⟨c2, cs⟩⟩
        · simp at h
        · cases c
          case slice a len cap =>
            cases a with
            | none =>
              cases len <;> cases cap <;> simp at h
              obtain ⟨rfl, rfl⟩ := h
              exact ⟨by simp [dV, RL, RV], by simp [dV, V.isCell], .inl rfl⟩
            | some a =>
              simp only [Nat.zero_le, true_and] at h
              obtain ⟨⟨hlc, hcm⟩, h⟩ := ite_some' h
              simp only [Option.bind_eq_some_iff, Option.map_eq_some_iff, Prod.mk.injEq] at h
              obtain ⟨elems, hel, rest, hrest, rfl, rfl⟩ := h
              obtain ⟨hl, hget⟩ := mapM_some _ _ _ hel
              rw [List.length_range] at hl
              have hone : ∀ (i : Nat) (x : DataW H × List MemPlace), elems[i]? = some x → ∃ us, W.cells? 0 (a.add (i * P.cellsOf e)) (P.cellsOf e) = some us ∧ RL (Sall W) W noK (dV x.1) us ∧ (dV x.1).all V.isCell = true ∧ DT P dep e x.1 := by
                intro i x hx
                have hi : i < len := by have := (List.getElem?_eq_some_iff.1 hx).1; omega
                have := hget i i x (by simp [hi]) hx
                simp only [Option.bind_eq_some_iff] at this
                obtain ⟨us, h1, h2⟩ := this
                obtain ⟨xd, xp⟩ := x
                exact ⟨us, h1, ih dep e us xd xp hpe h2⟩
              refine ⟨?_, by simp [dV, V.isCell], .inr ⟨_, _, rfl, by simp; omega, fun x hx => ?_⟩⟩
              · simp only [dV, RL, and_true, RV]
                refine ⟨some a, cap, by simp [dVs_eq, hl], by simp [dVs_eq, hl]; omega, ?_⟩
                by_cases h0 : len = 0
                · left
                  have : elems = [] := List.eq_nil_of_length_eq_zero (by omega)
                  simp [this, dVs]
                · right
                  have hspot : a.spot = none := by
                    obtain ⟨us, h1, h2, _⟩ := hone 0 elems[0] (by simp [show 0 < elems.length by omega])
                    obtain ⟨g1, g2⟩ := cells?_get h1
                    have hl0 : 0 < us.length := by omega
                    have := (cell?_spot (g2 0 us[0] (by simp [hl0]))).1
                    simpa [Addr.add] using this
                  refine ⟨a.block, a.off, P.cellsOf e, by cases a; simp at hspot; simp [hspot], RE_of (fun i r hr => ?_)⟩
                  rw [dVs_eq, List.getElem?_map, List.getElem?_map] at hr
                  simp only [Option.map_eq_some_iff] at hr
                  obtain ⟨_, ⟨x, hx, rfl⟩, rfl⟩ := hr
                  obtain ⟨us, h1, h2, h3, _⟩ := hone i x hx
                  obtain ⟨g1, g2⟩ := cells?_get h1
                  have hlen := RL_length h2
                  refine ⟨by omega, RC_of (fun j y hy => ?_)⟩
                  obtain ⟨u, hu, hyu⟩ := RL_get h2 hy
                  have hc := g2 j u hu
                  have hadd : (a.add (i * P.cellsOf e)).add j = ⟨a.block, a.off + i * P.cellsOf e + j, none⟩ := by
                    have : a = ⟨a.block, a.off, none⟩ := by cases a; simp at hspot; simp [hspot]
                    rw [this, add_off, add_off]
                  rw [hadd] at hc
                  exact ⟨(cell?_spot hc).2, u, hc, List.all_eq_true.1 h3 y (List.mem_of_getElem? hy), hyu⟩
              · simp only [List.mem_map] at hx
                obtain ⟨x', hx', rfl⟩ := hx
                obtain ⟨i, hi⟩ := List.getElem?_of_mem hx'
                exact (hone i x' hi).choose_spec.2.2.2
          all_goals simp at h
        · cases c <;> simp at h
      · rename_i fs ht
        simp only [Bool.and_eq_true, List.all_eq_true] at hp
        obtain ⟨hc, hall⟩ := hp
        unfold DataW.trod at h
        rw [ht] at h
        simp only at h
        obtain ⟨hlen, h⟩ := ite_some' h
        simp only [Option.map_eq_some_iff, Prod.mk.injEq] at h
        obtain ⟨xs, hm, rfl, rfl⟩ := h
        have gen : ∀ (fl : List Field) (xs : List (DataW H × List MemPlace)) (o : Nat), contig P fl o (P.cellsOf t) = true → (∀ f ∈ fl, plainB P dep f.type = true) → o ≤ cs.length →
            fl.mapM (fun f => DataW.trod enc P W 0 spare held fuel f.type ((cs.drop f.offset).take (P.cellsOf f.type))) = some xs →
            RL (Sall W) W noK (dVc (xs.map (·.1))) (cs.drop o) ∧ (dVc (xs.map (·.1))).all V.isCell = true ∧ F2 (fun (x : DataW H) (g : Field) => DT P dep g.type x) (xs.map (·.1)) fl := by
          intro fl
          induction fl with
          | nil =>
            intro xs o hc _ ho hm
            simp at hm
            subst hm
            simp only [contig, beq_iff_eq] at hc
            subst hc
            rw [← hlen]
            simp [dVc, RL, F2]
          | cons f fl ihf =>
            intro xs o hc hall ho hm
            simp only [contig, Bool.and_eq_true, beq_iff_eq] at hc
            obtain ⟨rfl, hc⟩ := hc
            simp only [List.mapM_cons, Option.bind_eq_bind, Option.bind_eq_some_iff, Option.pure_def, Option.some.injEq] at hm
            obtain ⟨x, hx, xs', hxs, rfl⟩ := hm
            obtain ⟨xd, xp⟩ := x
            obtain ⟨r1, r2, r3⟩ := ih dep f.type _ xd xp (hall f (by simp)) hx
            have hfit : f.offset + P.cellsOf f.type ≤ cs.length := by
              have : ∀ (fl : List Field) (o : Nat), contig P fl o (P.cellsOf t) = true → o ≤ P.cellsOf t := by
                intro fl
                induction fl with
                | nil => intro o h; simp [contig] at h; omega
                | cons g gs ihg => intro o h; simp only [contig, Bool.and_eq_true, beq_iff_eq] at h; have := ihg _ h.2; omega
              have := this fl _ hc
              omega
            obtain ⟨q1, q2, q3⟩ := ihf xs' _ hc (fun g hg => hall g (by simp [hg])) hfit hxs
            refine ⟨?_, ?_, r3, q3⟩
            · simp only [List.map_cons, dVc]
              have : cs.drop f.offset = (cs.drop f.offset).take (P.cellsOf f.type) ++ cs.drop (f.offset + P.cellsOf f.type) := by
                rw [← List.drop_drop, List.take_append_drop]
              rw [this]
              exact RL_append r1 q1
            · simp only [List.map_cons, dVc, List.all_append, r2, q2, Bool.and_self]
        obtain ⟨g1, g2, g3⟩ := gen fs.toList xs 0 hc hall (Nat.zero_le _) hm
        exact ⟨by simpa [dV] using g1, by simpa [dV] using g2, _, rfl, g3⟩
      · cases hp

/-- An argument's tree. -/
def dT (P : Program) (t : TypeId) (d : DataW H) : V :=
  match P.underlying t with
  | some (.struct _) => .agg (dV d)
  | _ => (dV d).headD .undef

theorem trod_arg {dep : Nat} {t : TypeId} {v : Value} {d : DataW H} {ps : List MemPlace} (hp : plainB P dep t = true) (h : DataW.Trod enc P W 0 spare held t v d ps) {r : Reach} {base : Nat} (hv : Value.okWide P W r base t v) :
    RV (Sall W) W noK (dT P t d) v ∧ DT P dep t d := by
  obtain ⟨fuel, h⟩ := h
  obtain ⟨h1, h2, h3⟩ := trod_tree fuel dep t _ d ps hp h
  refine ⟨?_, h3⟩
  cases dep with
  | zero => simp [plainB] at hp
  | succ dep =>
    simp only [plainB] at hp
    unfold dT
    unfold Value.okWide at hv
    have scal : (∀ c, v ≠ .agg c) → RV (Sall W) W noK ((dV d).headD .undef) v := by
      intro hne
      have hc : v.cells = #[v] := by cases v <;> first | rfl | exact absurd rfl (hne _)
      rw [hc] at h1
      cases hd : dV d with
      | nil => rw [hd] at h1; simp [RL] at h1
      | cons x xs =>
        rw [hd] at h1
        simp only [RL] at h1
        exact h1.1
    split at hp
    · rename_i ht
      rw [ht] at hv ⊢
      exact scal fun c e => by subst e; simp [Cell.okWide, Cell.ok, ht] at hv
    · rename_i k ht
      rw [ht] at hv ⊢
      exact scal fun c e => by subst e; simp [Cell.okWide, Cell.ok, ht] at hv
    · rename_i ht
      rw [ht] at hv ⊢
      exact scal fun c e => by subst e; simp [Cell.okWide, Cell.ok, ht] at hv
    · rename_i e ht
      rw [ht] at hv ⊢
      exact scal fun c e => by subst e; simp [Cell.okWide, Cell.ok, ht] at hv
    · rename_i fs ht
      rw [ht] at hv ⊢
      obtain ⟨cs, rfl, _⟩ := hv
      simp only [RV]
      exact ⟨cs, rfl, by simpa [Value.cells] using h1⟩
    · cases hp

/-- A call from above: out of what the evaluator answers. -/
theorem calls_of_callW (hP : P.follows .mixedOrders = true) {Φ : Nat → Option Cf} (hΦ : Tells P Φ) {f : FuncId} {args : List V} {x : V} {h' : Heap} (hc : callW Φ (.fn (.func f) [] []) args [] = some (x, h'))
    {as : Array Value} (hr : RL (Sall W) W noK args as.toList) : Calls P f as W fun e W' => ∃ v S' κ', e = .returned v ∧ Below W.heap.size W W' ∧ RV S' W' κ' x v := by
  obtain ⟨n, hn⟩ := callW_some hc
  have inv : Inv P W.heap.size (Sall W) W noK [] := ⟨fun i o ho => (by simp at ho), fun i j k k' h => (by cases h), fun i k h => (by cases h), fun b o h => h, Nat.le_refl _⟩
  obtain ⟨d, nx, h1, h2, h3, h4⟩ := call_sound hP hΦ n _ _ _ _ _ hn inv (fv := .func (.func f) #[] #[]) (by simp only [RV]; exact ⟨#[], #[], rfl, by simp [RL], by simp [RL]⟩) hr
  obtain ⟨g, as', rfl⟩ := h4 (fun l a c e => by cases e)
  have e1 : d = { target := .fn (.func f) #[], args := as } := by
    simp [Deferred.ofValue] at h1
    exact h1.symm
  subst e1
  have e2 : g = f ∧ as' = as := by
    cases n with
    | zero => simp [evCall] at hn
    | succ n =>
      simp only [evCall] at hn
      split at hn
      · cases hn
      · rename_i cf hcf
        obtain ⟨fn, c, hfn, hname, hb, _⟩ := hΦ f cf hcf
        simp only [invoke, callFunc_run hfn hname hb, Result.ok.injEq, Next.enter.injEq, and_true] at h2
        exact ⟨h2.1.symm, by simpa using h2.2.symm⟩
  obtain ⟨rfl, rfl⟩ := e2
  refine (callsIn_wide.1 (h3 0)).mono fun e W' he => ?_
  obtain ⟨v, S', κ', rfl, _, st, hv⟩ := he
  exact ⟨v, S', κ', rfl, st.below, hv⟩
end
end Go.Ev

namespace Go.Ev
set_option linter.unusedVariables false
set_option linter.unusedSectionVars false
set_option linter.unusedSimpArgs false

theorem eget_set_ne {env : List V} {i j : Nat} {v : V} (h : i ≠ j) : eget (env.set i v) j = eget env j := by
  simp [eget, List.getD_eq_getElem?_getD, List.getElem?_set_ne h]
theorem eget_set_eq {env : List V} {i : Nat} {v : V} (h : i < env.length) : eget (env.set i v) i = v := by
  simp [eget, List.getD_eq_getElem?_getD, List.getElem?_set_self h]

/-- Code ends so. -/
def WC (call : CallF) (rnd : Option Nat) (c : Cc) (s : St) (Q : Ex → St → Prop) : Prop := ∃ e s', evCodeW call rnd c s = some (e, s') ∧ Q e s'
def WO (call : CallF) (ops : List Cp) (s : St) (Q : St → Prop) : Prop := ∃ s', evOps call ops s = some s' ∧ Q s'
def seqQ (q : St → Prop) (Q : Ex → St → Prop) : Ex → St → Prop
  | .normal, s => q s
  | e, s => Q e s
def blockQ (id : Nat) (Q : Ex → St → Prop) : Ex → St → Prop
  | .exit i, s => Q (if i = id then .normal else .exit i) s
  | e, s => Q e s

section
variable {call : CallF} {rnd : Option Nat} {Q : Ex → St → Prop} {s : St}

theorem WC.mono {c : Cc} {Q' : Ex → St → Prop} (h : WC call rnd c s Q) (hq : ∀ e s, Q e s → Q' e s) : WC call rnd c s Q' :=
  let ⟨e, s', a, b⟩ := h; ⟨e, s', a, hq _ _ b⟩
theorem WC_skip (h : Q .normal s) : WC call rnd .skip s Q := ⟨_, _, rfl, h⟩
theorem WC_ret (h : Q .ret s) : WC call rnd .ret s Q := ⟨_, _, rfl, h⟩
theorem WC_exit {id : Nat} (h : Q (.exit id) s) : WC call rnd (.exit id) s Q := ⟨_, _, rfl, h⟩
theorem WC_region {ops : List Cp} (h : WO call ops s (Q .normal)) : WC call rnd (.region ops) s Q := by
  obtain ⟨s', a, b⟩ := h
  exact ⟨.normal, s', by simp [evCodeW, a], b⟩
theorem WC_seq {a b : Cc} (h : WC call rnd a s (seqQ (fun s => WC call rnd b s Q) Q)) : WC call rnd (.seq a b) s Q := by
  obtain ⟨e, s1, h1, h2⟩ := h
  cases e with
  | normal =>
    obtain ⟨e, s2, h3, h4⟩ := h2
    exact ⟨e, s2, by simp [evCodeW, h1, h3], h4⟩
  | exit i => exact ⟨.exit i, s1, by simp [evCodeW, h1], h2⟩
  | ret => exact ⟨.ret, s1, by simp [evCodeW, h1], h2⟩
theorem WC_cond {c : Od} {a b : Cc} {t : Bool} (hc : c.ev s.env = .bool t) (ha : t = true → WC call rnd a s Q) (hb : t = false → WC call rnd b s Q) : WC call rnd (.cond c a b) s Q := by
  cases t with
  | true =>
    obtain ⟨e, s', h1, h2⟩ := ha rfl
    exact ⟨e, s', by simp [evCodeW, hc, h1], h2⟩
  | false =>
    obtain ⟨e, s', h1, h2⟩ := hb rfl
    exact ⟨e, s', by simp [evCodeW, hc, h1], h2⟩
theorem WC_block {id : Nat} {c : Cc} (h : WC call rnd c s (blockQ id Q)) : WC call rnd (.block id c) s Q := by
  obtain ⟨e, s', h1, h2⟩ := h
  cases e with
  | normal => exact ⟨.normal, s', by simp [evCodeW, h1], h2⟩
  | exit i => exact ⟨if i = id then .normal else .exit i, s', by simp [evCodeW, h1], h2⟩
  | ret => exact ⟨.ret, s', by simp [evCodeW, h1], h2⟩
theorem WC_loop {c : Cc} (I : Nat → St → Prop) {n : Nat} (h0 : I n s) (hr : ∀ m s, I m s → WC call rnd c s (seqQ (fun s' => ∃ k, k < m ∧ I k s') Q)) : WC call rnd (.loop c) s Q := by
  revert s
  induction n using Nat.strongRecOn with
  | _ n ih =>
    intro s h0
    obtain ⟨e, s1, h1, h2⟩ := hr n s h0
    cases e with
    | normal =>
      obtain ⟨k, hk, hI⟩ := h2
      obtain ⟨e, s2, h3, h4⟩ := ih k hk hI
      exact ⟨e, s2, by simp only [evCodeW] at h3 ⊢; rw [roundsW_eq, h1]; exact h3, h4⟩
    | exit i => exact ⟨.exit i, s1, by simp only [evCodeW]; rw [roundsW_eq, h1], h2⟩
    | ret => exact ⟨.ret, s1, by simp only [evCodeW]; rw [roundsW_eq, h1], h2⟩

theorem WO_nil {q : St → Prop} (h : q s) : WO call [] s q := ⟨s, rfl, h⟩
theorem WO_op {q : St → Prop} {d : Option Nat} {op : Cop} {r : List Cp} {v : V} {h' : Heap} (hn : ∀ f args, op ≠ .call f args) (he : evOp s.env s.heap op = some (v, h'))
    (h : WO call r { s with env := putV s.env d v, heap := h' } q) : WO call (⟨d, op, none⟩ :: r) s q := by
  obtain ⟨s', h1, h2⟩ := h
  refine ⟨s', ?_, h2⟩
  simp only [evOps]
  have : evCp call ⟨d, op, none⟩ s = some { s with env := putV s.env d v, heap := h' } := by
    unfold evCp
    simp only [wanted]
    cases op <;> first | exact absurd rfl (hn _ _) | (simp only [he, fS_eq])
  rw [this]
  exact h1
theorem WO_call {q : St → Prop} {d : Option Nat} {f : Od} {args : List Od} {r : List Cp} {v : V} {h' : Heap} (he : call (f.ev s.env) (evs s.env args) s.heap = some (v, h'))
    (h : WO call r { s with env := putV s.env d v, heap := h' } q) : WO call (⟨d, .call f args, none⟩ :: r) s q := by
  obtain ⟨s', h1, h2⟩ := h
  refine ⟨s', ?_, h2⟩
  simp only [evOps]
  have : evCp call ⟨d, .call f args, none⟩ s = some { s with env := putV s.env d v, heap := h' } := by
    unfold evCp
    simp only [wanted, fS_eq, he]
  rw [this]
  exact h1
theorem WO_yes {q : St → Prop} {d : Option Nat} {op : Cop} {g : Nat × Bool} {r : List Cp} (hw : eget s.env g.1 = .bool g.2) (h : WO call (⟨d, op, none⟩ :: r) s q) : WO call (⟨d, op, some g⟩ :: r) s q := by
  obtain ⟨s', h1, h2⟩ := h
  refine ⟨s', ?_, h2⟩
  rw [← h1]
  simp only [evOps]
  have : evCp call ⟨d, op, some g⟩ s = evCp call ⟨d, op, none⟩ s := by
    unfold evCp
    obtain ⟨j, w⟩ := g
    simp only at hw
    simp [wanted, hw]
  rw [this]
theorem WO_no {q : St → Prop} {d : Option Nat} {op : Cop} {g : Nat × Bool} {r : List Cp} (hw : eget s.env g.1 = .bool (!g.2) ∨ eget s.env g.1 = V.non) (h : WO call r { s with env := putV s.env d V.non } q) : WO call (⟨d, op, some g⟩ :: r) s q := by
  obtain ⟨s', h1, h2⟩ := h
  refine ⟨s', ?_, h2⟩
  simp only [evOps]
  have : evCp call ⟨d, op, some g⟩ s = some { s with env := putV s.env d V.non } := by
    unfold evCp
    obtain ⟨j, w⟩ := g
    simp only at hw
    rcases hw with hw | hw <;> cases w <;> simp [wanted, hw, V.non]
  rw [this]
  exact h1

/-- A body, out of its code. -/
theorem body_of {cf : Cf} {args : List V} {h : Heap} {r : V × Heap} (hnt : args.length ≤ cf.ntmps) (hw : WC call none cf.body { env := args ++ List.replicate (cf.ntmps - args.length) V.non, marks := [], heap := h }
    (fun e s => (e = .normal ∨ e = .ret) ∧ ∃ h1 vs, takeMarks s.heap s.marks = some h1 ∧ evRes s.env h1 cf.results = some vs ∧ r = (pack vs, h1))) : evBodyW call cf args h = some r := by
  obtain ⟨e, s', h1, he, h2, vs, h3, h4, rfl⟩ := hw
  unfold evBodyW
  rw [if_neg (by omega)]
  rw [h1]
  rcases he with rfl | rfl
  · simp only [h3, h4]
    match vs with
    | [] => rfl
    | [v] => rfl
    | a :: b :: c => rfl
  · simp only [h3, h4]
    match vs with
    | [] => rfl
    | [v] => rfl
    | a :: b :: c => rfl
end

/-! ### Trees: values with none of the heap -/
def flat : V → Bool
  | .agg cs => cs.all scal
  | x => scal x
def flat2 : V → Bool
  | .tup cs => cs.all flat
  | x => flat x

theorem mapH_same {f : Heap → V → Option (V × Heap)} {h : Heap} : ∀ {l : List V}, (∀ x ∈ l, f h x = some (x, h)) → mapH f h l = some (l, h)
  | [], _ => rfl
  | x :: l, hh => by
    have ih := mapH_same (l := l) (fun y hy => hh y (by simp [hy]))
    simp only [mapH, hh x (by simp), ih]

theorem fz_scal {d : Nat} {h : Heap} {x : V} (hx : scal x = true) : fz (d + 1) h x = some (x, h) := by
  cases x <;> simp [scal] at hx <;> simp [fz]
theorem fz_flat {d : Nat} {h : Heap} {x : V} (hx : flat x = true) : fz (d + 2) h x = some (x, h) := by
  cases x <;> simp only [flat] at hx
  case agg cs =>
    have := mapH_same (f := fz (d + 1)) (h := h) (l := cs) fun y hy => fz_scal (List.all_eq_true.1 hx y hy)
    show (mapH (fz (d + 1)) h cs).map (fun p => (V.agg p.1, p.2)) = _
    rw [this]
    rfl
  all_goals exact fz_scal hx
theorem fz_flat2 {h : Heap} {x : V} (hx : flat2 x = true) : fz fzDepth h x = some (x, h) := by
  cases x <;> simp only [flat2] at hx
  case tup cs =>
    have := mapH_same (f := fz 63) (h := h) (l := cs) fun y hy => fz_flat (d := 61) (List.all_eq_true.1 hx y hy)
    show (mapH (fz 63) h cs).map (fun p => (V.tup p.1, p.2)) = _
    rw [this]
    rfl
  all_goals exact fz_flat (d := 62) hx

/-- A pure function's call, on trees. -/
theorem callW_tree {Φ : Nat → Option Cf} {f : FuncId} {cf : Cf} (hf : Φ f = some cf) (hp : cf.pure = true) {args : List V} {h h2 h3 : Heap} {r r' : V} (ha : args.all flat2 = true)
    (hb : evBodyW (callW Φ) cf args [] = some (r, h2)) (hz : fz fzDepth h2 r = some (r', h3)) : callW Φ (.fn (.func f) [] []) args h = some (r', h) := by
  refine callW_pure hf hp (h1 := h) (as := args) ?_ hb hz
  simp only [List.nil_append, List.append_nil]
  exact mapH_same fun x hx => fz_flat2 (List.all_eq_true.1 ha x hx)
end Go.Ev
