/- The evaluator, part 6: Running code by rewriting. Values that are worked out, as rewriting rules. Calls of pure functions: what is handed over, and handed back, frozen. Running code by rewriting, with no words under binders. Functions that are told of by hand: the numbers of sync/atomic, sync.Once. Stepping through code by hand, beside the evaluator. No conditions. -/
import Derived.Test.YtgfebbhjpgkdfaaE05
import Derived.Laws.LoneSync
import Derived.Conc.MuLone
namespace Go.Ev
set_option linter.unusedVariables false
set_option linter.unusedSectionVars false
set_option linter.unusedSimpArgs false

section
variable {call : CallF} {rnd : Option Nat} {Q : Ex → St → Prop} {s : St}

theorem seqQ_n {q : St → Prop} {Q : Ex → St → Prop} : seqQ q Q .normal = q := rfl
theorem seqQ_r {q : St → Prop} {Q : Ex → St → Prop} : seqQ q Q .ret = Q .ret := rfl
theorem seqQ_e {q : St → Prop} {Q : Ex → St → Prop} {i : Nat} : seqQ q Q (.exit i) = Q (.exit i) := rfl
theorem blockQ_n {id : Nat} {Q : Ex → St → Prop} : blockQ id Q .normal = Q .normal := rfl
theorem blockQ_r {id : Nat} {Q : Ex → St → Prop} : blockQ id Q .ret = Q .ret := rfl
theorem blockQ_e {id : Nat} {Q : Ex → St → Prop} {i : Nat} : blockQ id Q (.exit i) = Q (if i = id then .normal else .exit i) := rfl

/-- Where a value is known. -/
def OnV (x : VH) (q : V → Heap → Prop) : Prop :=
  match x with
  | some (v, h) => q v h
  | none => False
theorem OnV_some (v : V) (h : Heap) (q : V → Heap → Prop) : OnV (some (v, h)) q = q v h := rfl

/-- Both branches. -/
def IfB (b : Bool) (p q : Prop) : Prop := (b = true → p) ∧ (b = false → q)
theorem IfB_true (p q : Prop) : IfB true p q = p := by simp [IfB]
theorem IfB_false (p q : Prop) : IfB false p q = q := by simp [IfB]
def OnB (x : V) (k : Bool → Prop) : Prop :=
  match x with
  | .bool b => k b
  | _ => False
theorem OnB_bool (b : Bool) (k : Bool → Prop) : OnB (.bool b) k = k b := rfl
def OnG (x : V) (w : Bool) (p q : Prop) : Prop :=
  match x with
  | .bool b => IfB (b == w) p q
  | .tup [] => q
  | _ => False
theorem OnG_bool (b w : Bool) (p q : Prop) : OnG (.bool b) w p q = IfB (b == w) p q := rfl
theorem OnG_non (w : Bool) (p q : Prop) : OnG V.non w p q = q := rfl

theorem rSkip : WC call rnd .skip s Q = Q .normal s := propext ⟨fun ⟨e, s', h, q⟩ => by simp [evCodeW] at h; obtain ⟨rfl, rfl⟩ := h; exact q, WC_skip⟩
theorem rRet : WC call rnd .ret s Q = Q .ret s := propext ⟨fun ⟨e, s', h, q⟩ => by simp [evCodeW] at h; obtain ⟨rfl, rfl⟩ := h; exact q, WC_ret⟩
theorem rExit {id : Nat} : WC call rnd (.exit id) s Q = Q (.exit id) s := propext ⟨fun ⟨e, s', h, q⟩ => by simp [evCodeW] at h; obtain ⟨rfl, rfl⟩ := h; exact q, WC_exit⟩
theorem rRegion {ops : List Cp} : WC call rnd (.region ops) s Q = WO call ops s (Q .normal) :=
  propext ⟨fun ⟨e, s', h, q⟩ => by
    simp only [evCodeW, Option.map_eq_some_iff, Prod.mk.injEq] at h
    obtain ⟨s1, h, rfl, rfl⟩ := h
    exact ⟨_, h, q⟩, WC_region⟩
theorem rSeq {a b : Cc} : WC call rnd (.seq a b) s Q = WC call rnd a s (seqQ (fun s => WC call rnd b s Q) Q) := by
  refine propext ⟨?_, WC_seq⟩
  rintro ⟨e, s', h, q⟩
  simp only [evCodeW] at h
  split at h
  · rename_i s1 h1
    exact ⟨_, _, h1, e, s', h, q⟩
  · rename_i hn
    refine ⟨e, s', h, ?_⟩
    cases e with
    | normal => exact absurd h (hn _)
    | exit i => exact q
    | ret => exact q
theorem rCond {c : Od} {a b : Cc} : WC call rnd (.cond c a b) s Q = OnB (c.ev s.env) fun t => IfB t (WC call rnd a s Q) (WC call rnd b s Q) := by
  apply propext
  constructor
  · rintro ⟨e, s', h, q⟩
    simp only [evCodeW] at h
    split at h
    · rename_i t ht
      rw [ht]
      cases t with
      | true =>
        simp only [OnB, IfB]
        exact ⟨fun _ => ⟨e, s', by simpa using h, q⟩, fun h => (by cases h)⟩
      | false =>
        simp only [OnB, IfB]
        exact ⟨fun h => (by cases h), fun _ => ⟨e, s', by simpa using h, q⟩⟩
    · cases h
  · intro h
    unfold OnB at h
    split at h
    · rename_i t ht
      exact WC_cond ht h.1 h.2
    · exact h.elim
theorem rBlock {id : Nat} {c : Cc} : WC call rnd (.block id c) s Q = WC call rnd c s (blockQ id Q) := by
  refine propext ⟨?_, WC_block⟩
  rintro ⟨e, s', h, q⟩
  simp only [evCodeW] at h
  split at h
  · rename_i i s1 h1
    simp only [Option.some.injEq, Prod.mk.injEq] at h
    obtain ⟨rfl, rfl⟩ := h
    exact ⟨_, _, h1, q⟩
  · rename_i hn
    refine ⟨e, s', h, ?_⟩
    cases e with
    | normal => exact q
    | exit i => exact absurd h (hn _ _)
    | ret => exact q

theorem rNil {q : St → Prop} : WO call [] s q = q s := propext ⟨fun ⟨s', h, hq⟩ => by simp [evOps] at h; subst h; exact hq, WO_nil⟩

/-- An operation or a call. -/
def evOpC (call : CallF) (env : List V) (h : Heap) (op : Cop) : VH :=
  match op with
  | .call f args => call (f.ev env) (evs env args) h
  | op => evOp env h op

theorem cp_evOpC {d : Option Nat} {op : Cop} : evCp call ⟨d, op, none⟩ s = (match evOpC call s.env s.heap op with
      | some (v, h) => some { s with env := putV s.env d v, heap := h }
      | none => none) := by
  unfold evCp
  simp only [wanted]
  cases op <;> first | (simp only [fS_eq]; done) | (simp only [fS_eq]; rfl) | rfl

theorem rOp {q : St → Prop} {d : Option Nat} {op : Cop} {r : List Cp} : WO call (⟨d, op, none⟩ :: r) s q =
    OnV (evOpC call s.env s.heap op) fun v h' => WO call r { s with env := putV s.env d v, heap := h' } q := by
  apply propext
  constructor
  · rintro ⟨s', h, hq⟩
    simp only [evOps, cp_evOpC] at h
    cases he : evOpC call s.env s.heap op with
    | none => rw [he] at h; simp at h
    | some p =>
      rw [he] at h
      exact ⟨s', h, hq⟩
  · intro h
    cases he : evOpC call s.env s.heap op with
    | none => rw [he] at h; exact h.elim
    | some p =>
      rw [he] at h
      obtain ⟨s', h1, h2⟩ := h
      exact ⟨s', by simp only [evOps, cp_evOpC, he]; exact h1, h2⟩
theorem rGuard {q : St → Prop} {d : Option Nat} {op : Cop} {j : Nat} {w : Bool} {r : List Cp} : WO call (⟨d, op, some (j, w)⟩ :: r) s q =
    OnG (eget s.env j) w (WO call (⟨d, op, none⟩ :: r) s q) (WO call r { s with env := putV s.env d V.non } q) := by
  have hyes : eget s.env j = .bool w → evCp call ⟨d, op, some (j, w)⟩ s = evCp call ⟨d, op, none⟩ s := by
    intro hw
    unfold evCp
    simp [wanted, hw]
  have hno : (eget s.env j = .bool (!w) ∨ eget s.env j = V.non) → evCp call ⟨d, op, some (j, w)⟩ s = some { s with env := putV s.env d V.non } := by
    intro hw
    unfold evCp
    rcases hw with hw | hw <;> cases w <;> simp [wanted, hw, V.non]
  unfold OnG
  split
  · rename_i t ht
    by_cases hw : t = w
    · subst hw
      simp only [beq_self_eq_true, IfB_true]
      unfold WO
      simp only [evOps, hyes ht]
    · have hb : (t == w) = false := by simpa using hw
      rw [hb, IfB_false]
      unfold WO
      have : eget s.env j = .bool (!w) := by rw [ht]; cases t <;> cases w <;> simp_all
      simp only [evOps, hno (.inl this)]
  · rename_i ht
    unfold WO
    simp only [evOps, hno (.inr ht)]
  · rename_i h1 h2
    apply propext
    refine ⟨fun ⟨s', h, _⟩ => ?_, False.elim⟩
    simp only [evOps] at h
    have : evCp call ⟨d, op, some (j, w)⟩ s = none := by
      unfold evCp
      have : wanted s.env (some (j, w)) = none := by
        simp only [wanted]
      simp only [this]
    rw [this] at h
    cases h

/-- The order in which a region's operations are taken, where one is enough. -/
def order (n : Nat) (af : List (List Nat)) (fl : List Nat) : Nat → List Bool → Option (List Nat)
  | 0, listed => if readyL n af listed = [] then some [] else none
  | f + 1, listed =>
    match readyL n af listed with
    | [] => some []
    | [i] => (order n af fl f (listed.set i true)).map (i :: ·)
    | i :: is =>
      match (i :: is).find? fl.contains with
      | some j => (order n af fl f (listed.set j true)).map (j :: ·)
      | none => none

theorem any_order {ops : List Cp} {af : List (List Nat)} {fl : List Nat} : ∀ (f : Nat) (listed : List Bool) (l : List Nat) (s : St), order ops.length af fl f listed = some l →
    evAny call ops af fl f listed s = evOps call (l.filterMap (ops[·]?)) s
  | 0, listed, l, s, h => by
    simp only [order] at h
    obtain ⟨h1, rfl⟩ := ite_some h
    simp [evAny, h1, evOps]
  | f + 1, listed, l, s, h => by
    rw [evAny_succ]
    simp only [order] at h
    have one : ∀ j l', j ∈ readyL ops.length af listed → order ops.length af fl f (listed.set j true) = some l' → evRun call ops af fl f listed s j = evOps call ((j :: l').filterMap (ops[·]?)) s := by
      intro j l' hj hl
      have hjs : j < ops.length := by
        unfold readyL at hj
        rw [List.mem_filter, List.mem_range] at hj
        exact hj.1
      unfold evRun
      rw [List.filterMap_cons]
      simp only [List.getElem?_eq_getElem hjs]
      simp only [evOps]
      cases h1 : evCp call ops[j] s with
      | some s1 => exact any_order f _ l' s1 hl
      | none => rfl
    split at h
    · rename_i hr
      cases h
      rw [hr]
      rfl
    · rename_i i hr
      simp only [Option.map_eq_some_iff] at h
      obtain ⟨l', hl, rfl⟩ := h
      have := one i l' (by rw [hr]; simp) hl
      rw [hr]
      simp only
      split
      · rename_i j hj
        have hji : j = i := by
          have := List.mem_of_find?_eq_some hj
          simpa using this
        subst hji
        exact this
      · rw [this]
        split
        · rename_i r hr'; simp; exact hr'.symm
        · rename_i hr'; exact hr'.symm
    · rename_i i is hne hr
      split at h
      · rename_i j hj
        simp only [Option.map_eq_some_iff] at h
        obtain ⟨l', hl, rfl⟩ := h
        have hjm : j ∈ i :: is := List.mem_of_find?_eq_some hj
        have := one j l' (by rw [hr]; exact hjm) hl
        rw [hr]
        simp only [hj]
        exact this
      · cases h

/-- All the orders in which the operations may come; those that may come first, first. -/
def orders (n : Nat) (af : List (List Nat)) (fl : List Nat) : Nat → List Bool → Option (List (List Nat))
  | 0, listed => if readyL n af listed = [] then some [[]] else none
  | f + 1, listed =>
    match readyL n af listed with
    | [] => some [[]]
    | i :: is =>
      match (i :: is).find? fl.contains with
      | some j => (orders n af fl f (listed.set j true)).map fun ls => ls.map (j :: ·)
      | none => ((i :: is).mapM fun j => (orders n af fl f (listed.set j true)).map fun ls => ls.map (j :: ·)).map List.flatten

theorem orders_ne {n : Nat} {af : List (List Nat)} {fl : List Nat} : ∀ (f : Nat) (listed : List Bool) (ls : List (List Nat)), orders n af fl f listed = some ls → ls ≠ []
  | 0, listed, ls, h => by
    simp only [orders] at h
    obtain ⟨_, rfl⟩ := ite_some h
    simp
  | f + 1, listed, ls, h => by
    simp only [orders] at h
    split at h
    · cases h; simp
    · rename_i i is hr
      split at h
      · simp only [Option.map_eq_some_iff] at h
        obtain ⟨l', h1, rfl⟩ := h
        simpa using orders_ne f _ _ h1
      · simp only [Option.map_eq_some_iff, List.mapM_cons, Option.bind_eq_bind, Option.bind_eq_some_iff, Option.pure_def, Option.some.injEq] at h
        obtain ⟨_, ⟨a, ⟨b, h1, rfl⟩, c, h2, rfl⟩, rfl⟩ := h
        have := orders_ne f _ _ h1
        simp [this]

theorem any_orders {ops : List Cp} {af : List (List Nat)} {fl : List Nat} {r : St} : ∀ (f : Nat) (listed : List Bool) (ls : List (List Nat)) (s : St), orders ops.length af fl f listed = some ls →
    (∀ l ∈ ls, evOps call (l.filterMap (ops[·]?)) s = some r) → evAny call ops af fl f listed s = some r
  | 0, listed, ls, s, h, hh => by
    simp only [orders] at h
    obtain ⟨h1, rfl⟩ := ite_some h
    simpa [evAny, h1, evOps] using hh [] (by simp)
  | f + 1, listed, ls, s, h, hh => by
    rw [evAny_succ]
    simp only [orders] at h
    have one : ∀ j ls', j ∈ readyL ops.length af listed → orders ops.length af fl f (listed.set j true) = some ls' → (∀ l ∈ ls', evOps call ((j :: l).filterMap (ops[·]?)) s = some r) → evRun call ops af fl f listed s j = some r := by
      intro j ls' hj hl hall
      have hjs : j < ops.length := by
        unfold readyL at hj
        rw [List.mem_filter, List.mem_range] at hj
        exact hj.1
      have hcons : ∀ l, (j :: l).filterMap (ops[·]?) = ops[j] :: l.filterMap (ops[·]?) := by
        intro l
        rw [List.filterMap_cons]
        simp only [List.getElem?_eq_getElem hjs]
      unfold evRun
      simp only [List.getElem?_eq_getElem hjs]
      obtain ⟨l0, l1, he⟩ := List.exists_cons_of_ne_nil (orders_ne f _ _ hl)
      have h0 := hall l0 (by rw [he]; simp)
      rw [hcons] at h0
      simp only [evOps] at h0
      cases h1 : evCp call ops[j] s with
      | none => rw [h1] at h0; cases h0
      | some s1 =>
        refine any_orders f _ ls' s1 hl (fun l hm => ?_)
        have := hall l hm
        rw [hcons] at this
        simpa only [evOps, h1] using this
    split at h
    · rename_i hr
      cases h
      rw [hr]
      simpa [evOps] using hh [] (by simp)
    · rename_i i is hr
      rw [hr]
      split at h
      · rename_i j hj
        simp only [Option.map_eq_some_iff] at h
        obtain ⟨ls', h1, rfl⟩ := h
        have hjm : j ∈ i :: is := List.mem_of_find?_eq_some hj
        simp only [hj]
        exact one j ls' (by rw [hr]; exact hjm) h1 (fun l hm => hh _ (by simp only [List.mem_map]; exact ⟨l, hm, rfl⟩))
      · rename_i hj
        simp only [hj]
        simp only [Option.map_eq_some_iff] at h
        obtain ⟨lss, h1, rfl⟩ := h
        obtain ⟨hl, hg⟩ := mapM_some _ _ _ h1
        have all : ∀ j ∈ i :: is, evRun call ops af fl f listed s j = some r := by
          intro j hjm
          obtain ⟨p, hp⟩ := List.getElem?_of_mem hjm
          have hpl : p < lss.length := by rw [hl]; exact (List.getElem?_eq_some_iff.1 hp).1
          have h2 := hg p j lss[p] hp (by simp [hpl])
          simp only [Option.map_eq_some_iff] at h2
          obtain ⟨ls', h3, h4⟩ := h2
          refine one j ls' (by rw [hr]; exact hjm) h3 (fun l hm => hh _ ?_)
          rw [List.mem_flatten]
          exact ⟨lss[p], by simp [hpl], by rw [← h4]; simp only [List.mem_map]; exact ⟨l, hm, rfl⟩⟩
        rw [all i (by simp)]
        have : (is.all fun j => beqO (evRun call ops af fl f listed s j) r) = true := by
          rw [List.all_eq_true]
          intro j hj
          rw [all j (by simp [hj])]
          exact sameSt_refl r
        simp [this]

theorem rDraw {ops : List Cp} {af : List (List Nat)} {fl : List Nat} {l : List Nat} (h : order ops.length af fl ops.length (List.replicate ops.length false) = some l) {ops' : List Cp} (h2 : l.filterMap (ops[·]?) = ops') :
    WC call none (.draw ops af fl) s Q = WO call ops' s (Q .normal) := by
  subst h2
  have he := any_order (call := call) (ops := ops) (af := af) (fl := fl) ops.length _ l s h
  apply propext
  constructor
  · rintro ⟨e, s', h1, hq⟩
    simp only [evCodeW, Option.isNone_none, if_true, he, Option.map_eq_some_iff, Prod.mk.injEq] at h1
    obtain ⟨s1, h1, rfl, rfl⟩ := h1
    exact ⟨_, h1, hq⟩
  · rintro ⟨s', h1, hq⟩
    exact ⟨.normal, s', by simp [evCodeW, he, h1], hq⟩
end

theorem eo_call {call : CallF} {env : List V} {h : Heap} : ∀ f args, evOpC call env h (.call f args) = call (f.ev env) (evs env args) h := by intros; rfl
theorem eo_mov {call : CallF} {env : List V} {h : Heap} : ∀ x, evOpC call env h (.mov x) = some (x.ev env, h) := by intros; rfl
theorem eo_pick {call : CallF} {env : List V} {h : Heap} : ∀ c a b, evOpC call env h (.pick c a b) = evPick env h c a b := by intros; rfl
theorem eo_alloc {call : CallF} {env : List V} {h : Heap} : ∀ zero, evOpC call env h (.alloc zero) = newOb h (.ptr h.length 0) (.cells zero) := by intros; rfl
theorem eo_box {call : CallF} {env : List V} {h : Heap} : ∀ x, evOpC call env h (.box x) = evBox h (x.ev env).cells := by intros; rfl
theorem eo_build {call : CallF} {env : List V} {h : Heap} : ∀ zero parts, evOpC call env h (.build zero parts) = evBuild h zero (parts.map fun p => (p.1, p.2.1, p.2.2.ev env)) := by intros; rfl
theorem eo_bslice {call : CallF} {env : List V} {h : Heap} : ∀ zero len sz parts, evOpC call env h (.bslice zero len sz parts) = evBslice h zero len sz (parts.map fun p => (p.1, p.2.ev env)) := by intros; rfl
theorem eo_load {call : CallF} {env : List V} {h : Heap} : ∀ ag x, evOpC call env h (.load ag x) = okCells h ag (cellsAt h (x.ev env)) := by intros; rfl
theorem eo_store {call : CallF} {env : List V} {h : Heap} : ∀ n a x, evOpC call env h (.store n a x) = evStoreV h n (a.ev env) (x.ev env) := by intros; rfl
theorem eo_bin {call : CallF} {env : List V} {h : Heap} : ∀ op x y, evOpC call env h (.bin op x y) = okV h (binV op (x.ev env) (y.ev env)) := by intros; rfl
theorem eo_eqc {call : CallF} {env : List V} {h : Heap} : ∀ neg ps x y, evOpC call env h (.eqc neg ps x y) = evEqc h neg ps (x.ev env) (y.ev env) := by intros; rfl
theorem eo_eqn {call : CallF} {env : List V} {h : Heap} : ∀ k neg x y, evOpC call env h (.eqn k neg x y) = evEqn h k neg (x.ev env) (y.ev env) := by intros; rfl
theorem eo_un {call : CallF} {env : List V} {h : Heap} : ∀ op x, evOpC call env h (.un op x) = okV h (unV op (x.ev env)) := by intros; rfl
theorem eo_conv {call : CallF} {env : List V} {h : Heap} : ∀ d x, evOpC call env h (.conv d x) = evConv h d (x.ev env) := by intros; rfl
theorem eo_field {call : CallF} {env : List V} {h : Heap} : ∀ off ag x, evOpC call env h (.field off ag x) = evField h off ag (x.ev env) := by intros; rfl
theorem eo_faddr {call : CallF} {env : List V} {h : Heap} : ∀ off x, evOpC call env h (.faddr off x) = okV h (faddrV off (x.ev env)) := by intros; rfl
theorem eo_iaddr {call : CallF} {env : List V} {h : Heap} : ∀ sz x i, evOpC call env h (.iaddr sz x i) = okV h (iaddrV h sz (x.ev env) (i.ev env)) := by intros; rfl
theorem eo_iaddrA {call : CallF} {env : List V} {h : Heap} : ∀ len sz x i, evOpC call env h (.iaddrA len sz x i) = evIaddrA h len sz (x.ev env) (i.ev env) := by intros; rfl
theorem eo_idxS {call : CallF} {env : List V} {h : Heap} : ∀ x i, evOpC call env h (.idxS x i) = evIdxS h (x.ev env) (i.ev env) := by intros; rfl
theorem eo_idxA {call : CallF} {env : List V} {h : Heap} : ∀ len sz ag x i, evOpC call env h (.idxA len sz ag x i) = evIdxA h len sz ag (x.ev env) (i.ev env) := by intros; rfl
theorem eo_slice {call : CallF} {env : List V} {h : Heap} : ∀ k sz x lo hi, evOpC call env h (.slice k sz x lo hi) = okV h (sliceV k h sz (x.ev env) (lo.map (·.ev env)) (hi.map (·.ev env))) := by intros; rfl
theorem eo_ext {call : CallF} {env : List V} {h : Heap} : ∀ x i, evOpC call env h (.ext x i) = evExt h (x.ev env) i := by intros; rfl
theorem eo_mki {call : CallF} {env : List V} {h : Heap} : ∀ t x, evOpC call env h (.mki t x) = some (.ifc t (x.ev env), h) := by intros; rfl
theorem eo_mkf {call : CallF} {env : List V} {h : Heap} : ∀ f first caps, evOpC call env h (.mkf f first caps) = fS (evs env first) fun a => fS (evs env caps) fun b => some (.fn f a b, h) := by intros; rfl
theorem eo_mkm {call : CallF} {env : List V} {h : Heap} : evOpC call env h .mkm = newOb h (.map h.length) (.map [] 0) := rfl
theorem eo_mks {call : CallF} {env : List V} {h : Heap} : ∀ zero sz bytes len cap, evOpC call env h (.mks zero sz bytes len cap) = evMks h zero sz bytes (len.ev env) (cap.ev env) := by intros; rfl
theorem eo_look {call : CallF} {env : List V} {h : Heap} : ∀ ks ok zero m k, evOpC call env h (.look ks ok zero m k) = evLook h ks ok zero (m.ev env) (k.ev env) := by intros; rfl
theorem eo_mapup {call : CallF} {env : List V} {h : Heap} : ∀ ks m k x, evOpC call env h (.mapup ks m k x) = evMapup h ks (m.ev env) (k.ev env) (x.ev env) := by intros; rfl
theorem eo_mapent {call : CallF} {env : List V} {h : Heap} : ∀ ks zero m k, evOpC call env h (.mapent ks zero m k) = evMapent h ks zero (m.ev env) (k.ev env) := by intros; rfl
theorem eo_entst {call : CallF} {env : List V} {h : Heap} : ∀ m s x, evOpC call env h (.entst m s x) = evEntst h (m.ev env) (s.ev env) (x.ev env) := by intros; rfl
theorem eo_len {call : CallF} {env : List V} {h : Heap} : ∀ k x, evOpC call env h (.len k x) = evLen h k (x.ev env) := by intros; rfl
theorem eo_mx {call : CallF} {env : List V} {h : Heap} : ∀ xs, evOpC call env h (.mx xs) = okV h (foldInt (fun x y => if y > x then y else x) (evs env xs)) := by intros; rfl
theorem eo_mn {call : CallF} {env : List V} {h : Heap} : ∀ xs, evOpC call env h (.mn xs) = okV h (foldInt (fun x y => if y < x then y else x) (evs env xs)) := by intros; rfl
theorem eo_app {call : CallF} {env : List V} {h : Heap} : ∀ sz bytes s x, evOpC call env h (.app sz bytes s x) = evApp h sz bytes (s.ev env) (x.ev env) := by intros; rfl
theorem eo_copy {call : CallF} {env : List V} {h : Heap} : ∀ sz d x, evOpC call env h (.copy sz d x) = evCopy h sz (d.ev env) (x.ev env) := by intros; rfl
theorem eo_del {call : CallF} {env : List V} {h : Heap} : ∀ ks m k, evOpC call env h (.del ks m k) = evDel h ks (m.ev env) (k.ev env) := by intros; rfl
theorem eo_slice3 {call : CallF} {env : List V} {h : Heap} : ∀ x lo hi mx, evOpC call env h (.slice3 x lo hi mx) = evSl3 h (x.ev env) (lo.map (·.ev env)) (hi.ev env) (mx.ev env) := by intros; rfl
theorem eo_clr {call : CallF} {env : List V} {h : Heap} : ∀ sz zero x, evOpC call env h (.clr sz zero x) = evClr h sz zero (x.ev env) := by intros; rfl
theorem eo_ins {call : CallF} {env : List V} {h : Heap} : ∀ sz bytes s i x, evOpC call env h (.ins sz bytes s i x) = evIns h sz bytes (s.ev env) (i.ev env) (x.ev env) := by intros; rfl
theorem eo_atadd {call : CallF} {env : List V} {h : Heap} : ∀ k x y, evOpC call env h (.atadd k x y) = evAtadd h k (x.ev env) (y.ev env) := by intros; rfl
theorem eo_onceIn {call : CallF} {env : List V} {h : Heap} : ∀ x f, evOpC call env h (.onceIn x f) = evOnceIn h (x.ev env) (f.ev env) := by intros; rfl
theorem eo_onceOut {call : CallF} {env : List V} {h : Heap} : ∀ x, evOpC call env h (.onceOut x) = evOnceOut h (x.ev env) := by intros; rfl
theorem eo_atst {call : CallF} {env : List V} {h : Heap} : ∀ k x y, evOpC call env h (.atst k x y) = evAtst h k (x.ev env) (y.ev env) := by intros; rfl
theorem eo_atld {call : CallF} {env : List V} {h : Heap} : ∀ k x, evOpC call env h (.atld k x) = evAtld h k (x.ev env) := by intros; rfl
theorem eo_nilchk {call : CallF} {env : List V} {h : Heap} : ∀ x, evOpC call env h (.nilchk x) = evNilchk h (x.ev env) := by intros; rfl

/-- A body, its temporaries unknown but for the arguments. -/
theorem body_start {call : CallF} {cf : Cf} {args : List V} {h : Heap} {r : V × Heap} (hn : args.length ≤ cf.ntmps)
    (hw : ∀ env : List V, env.length = cf.ntmps → (∀ i, i < args.length → eget env i = eget args i) → WC call none cf.body { env := env, marks := [], heap := h }
      (fun e s => (e = .normal ∨ e = .ret) ∧ ∃ h1 vs, takeMarks s.heap s.marks = some h1 ∧ evRes s.env h1 cf.results = some vs ∧ r = (pack vs, h1))) : evBodyW call cf args h = some r := by
  refine body_of hn (hw _ (by simp; omega) fun i hi => ?_)
  simp [eget, List.getD_eq_getElem?_getD, List.getElem?_append_left hi]
end Go.Ev

namespace Go.Ev
set_option linter.unusedVariables false
set_option linter.unusedSectionVars false
set_option linter.unusedSimpArgs false

section
variable {h : Heap}
theorem okCells_one (c : V) (r : List V) : okCells h none (some (c :: r)) = some (c, h) := rfl
theorem okCells_agg {n : Nat} {cs : List V} (hn : n ≤ cs.length) : okCells h (some n) (some cs) = some (.agg (cs.take n), h) := by simp [okCells, hn, fS_eq]
theorem cellsAt_iptr (cs : List V) : cellsAt h (.iptr cs) = some cs := rfl
theorem cellsAt_ptr {id off : Nat} {cs : List V} (hh : h[id]? = some (.cells cs)) : cellsAt h (.ptr id off) = some (cs.drop off) := by simp [cellsAt, hh]
theorem faddr_ptr (n id o : Nat) : faddrV n (.ptr id o) = some (.ptr id (o + n)) := rfl
theorem faddr_iptr {n : Nat} {cs : List V} (hn : n ≤ cs.length) : faddrV n (.iptr cs) = some (.iptr (cs.drop n)) := by simp [faddrV, hn]
theorem iaddr_map {α : Type} {enc : α → List V} {l : List α} {sz : Nat} (hs : ∀ x, (enc x).length = sz) {k : IntKind} {i : Nat} {x : α} (hx : l[i]? = some x) :
    iaddrV h sz (.arr (l.map enc)) (.int k i) = some (.iptr (enc x)) := by
  have hi := (List.getElem?_eq_some_iff.1 hx).1
  have : ((i : Int) < (l.length : Int)) := by omega
  simp [iaddrV, this, hx, hs]
theorem iaddr_mapI {α : Type} {enc : α → List V} {l : List α} {sz : Nat} (hs : ∀ x, (enc x).length = sz) {k : IntKind} {n : Int} (h0 : 0 ≤ n) {x : α} (hx : l[n.toNat]? = some x) :
    iaddrV h sz (.arr (l.map enc)) (.int k n) = some (.iptr (enc x)) := by
  have := iaddr_map (h := h) hs (k := k) hx
  rwa [Int.toNat_of_nonneg h0] at this
theorem len_arr (xs : List (List V)) : evLen h .l (.arr xs) = some (.int .i64 xs.length, h) := by simp [evLen, lenV, fNat_eq]
theorem len_str (s : ByteArray) : evLen h .s (.str s) = some (.int .i64 s.size, h) := by simp [evLen, lenV, fNat_eq]

theorem bin_add (k : IntKind) (a b : Int) : binV .add (.int k a) (.int k b) = some (.int k (k.wrap (a + b))) := by simp [binV]
theorem bin_sub (k : IntKind) (a b : Int) : binV .sub (.int k a) (.int k b) = some (.int k (k.wrap (a - b))) := by simp [binV]
theorem bin_mul (k : IntKind) (a b : Int) : binV .mul (.int k a) (.int k b) = some (.int k (k.wrap (a * b))) := by simp [binV]
theorem bin_eql (k : IntKind) (a b : Int) : binV .eql (.int k a) (.int k b) = some (.bool (a == b)) := by simp [binV, intCmp]
theorem bin_neq (k : IntKind) (a b : Int) : binV .neq (.int k a) (.int k b) = some (.bool (a != b)) := by simp [binV, intCmp]
theorem bin_lss (k : IntKind) (a b : Int) : binV .lss (.int k a) (.int k b) = some (.bool (decide (a < b))) := by simp [binV, intCmp]
theorem bin_leq (k : IntKind) (a b : Int) : binV .leq (.int k a) (.int k b) = some (.bool (decide (a ≤ b))) := by simp [binV, intCmp]
theorem bin_gtr (k : IntKind) (a b : Int) : binV .gtr (.int k a) (.int k b) = some (.bool (decide (a > b))) := by simp [binV, intCmp]
theorem bin_geq (k : IntKind) (a b : Int) : binV .geq (.int k a) (.int k b) = some (.bool (decide (a ≥ b))) := by simp [binV, intCmp]
theorem bin_seql (a b : ByteArray) : binV .eql (.str a) (.str b) = some (.bool (beqS a b)) := rfl
theorem bin_sneq (a b : ByteArray) : binV .neq (.str a) (.str b) = some (.bool (!(beqS a b))) := rfl
theorem un_not (b : Bool) : unV .not (.bool b) = some (.bool (!b)) := rfl

theorem pick_bool {env : List V} {c a b : Od} {t : Bool} (hc : c.ev env = .bool t) : evPick env h c a b = some (if t then a.ev env else b.ev env, h) := by
  cases t <;> simp [evPick, hc]

theorem wrap64 {n : Int} (h1 : -9223372036854775808 ≤ n) (h2 : n < 9223372036854775808) : IntKind.i64.wrap n = n := by
  simp only [IntKind.wrap, IntKind.bits, IntKind.signed, Bool.true_and, decide_eq_true_eq, ge_iff_le]
  split <;> omega
theorem wrap8 {n : Int} (h1 : 0 ≤ n) (h2 : n < 256) : IntKind.u8.wrap n = n := by
  simp only [IntKind.wrap, IntKind.bits, IntKind.signed, Bool.false_and, Bool.false_eq_true, if_false]
  omega
theorem wrap32 {n : Int} (h1 : 0 ≤ n) (h2 : n < 4294967296) : IntKind.u32.wrap n = n := by
  simp only [IntKind.wrap, IntKind.bits, IntKind.signed, Bool.false_and, Bool.false_eq_true, if_false]
  omega
end
attribute [simp] seqQ_n seqQ_r seqQ_e blockQ_n blockQ_r blockQ_e OnV_some IfB_true IfB_false OnB_bool OnG_bool OnG_non rSkip rRet rExit rRegion rSeq rCond rBlock rNil rOp rGuard
attribute [simp] eo_call eo_mov eo_pick eo_alloc eo_box eo_build eo_bslice eo_load eo_store eo_bin eo_eqc eo_eqn eo_un eo_conv eo_field eo_faddr eo_iaddr eo_iaddrA eo_idxS eo_idxA eo_slice eo_ext eo_mki eo_mkf eo_mkm eo_mks eo_look eo_mapup eo_mapent eo_entst eo_len eo_mx eo_mn eo_app eo_copy eo_del eo_nilchk eo_slice3 eo_clr eo_ins eo_atadd eo_atst eo_atld eo_onceIn eo_onceOut
attribute [simp] okCells_one okCells_agg cellsAt_iptr faddr_ptr faddr_iptr len_arr len_str bin_add bin_sub bin_mul bin_eql bin_neq bin_lss bin_leq bin_gtr bin_geq bin_seql bin_sneq un_not eget_set_ne eget_set_eq
attribute [simp] Od.ev putV evs takeMarks evRes pack newOb_eq setOb_eq fS_eq
end Go.Ev

namespace Go.Ev
set_option linter.unusedVariables false
set_option linter.unusedSectionVars false
set_option linter.unusedSimpArgs false

/-- A cell without the heap: no list at all is one of nothing. -/
def nz : V → V
  | .nils => .arr []
  | x => x
def scalN : V → Bool
  | .nils => true
  | x => scal x

theorem fz_nz {d : Nat} {h : Heap} {x : V} (hx : scalN x = true) : fz (d + 1) h x = some (nz x, h) := by
  cases x <;> simp [scalN, scal] at hx <;> simp [fz, nz]

theorem mapH_map {f : Heap → V → Option (V × Heap)} {g : V → V} {h : Heap} : ∀ {l : List V}, (∀ x ∈ l, f h x = some (g x, h)) → mapH f h l = some (l.map g, h)
  | [], _ => rfl
  | x :: l, hh => by
    have ih := mapH_map (f := f) (g := g) (h := h) (l := l) (fun y hy => hh y (by simp [hy]))
    simp only [mapH, hh x (by simp), ih, List.map_cons]

/-- The same, of a struct too. -/
def flatN : V → Bool
  | .agg cs => cs.all scalN
  | x => scalN x
def nz1 : V → V
  | .agg cs => .agg (cs.map nz)
  | x => nz x
theorem fz_flatN {d : Nat} {h : Heap} {x : V} (hx : flatN x = true) : fz (d + 2) h x = some (nz1 x, h) := by
  cases x <;> simp only [flatN] at hx
  case agg cs =>
    have := mapH_map (f := fz (d + 1)) (g := nz) (h := h) (l := cs) fun y hy => fz_nz (List.all_eq_true.1 hx y hy)
    show (mapH (fz (d + 1)) h cs).map (fun p => (V.agg p.1, p.2)) = _
    rw [this]
    rfl
  all_goals exact fz_nz hx
def flatN2 : V → Bool
  | .tup cs => cs.all flatN
  | x => flatN x
def nz2 : V → V
  | .tup cs => .tup (cs.map nz1)
  | x => nz1 x
theorem fz_flatN2 {h : Heap} {x : V} (hx : flatN2 x = true) : fz fzDepth h x = some (nz2 x, h) := by
  cases x <;> simp only [flatN2] at hx
  case tup cs =>
    have := mapH_map (f := fz 63) (g := nz1) (h := h) (l := cs) fun y hy => fz_flatN (d := 61) (List.all_eq_true.1 hx y hy)
    show (mapH (fz 63) h cs).map (fun p => (V.tup p.1, p.2)) = _
    rw [this]
    rfl
  all_goals exact fz_flatN (d := 62) hx

/-- A pure function's call, on values with none of the heap; so is what it answers. -/
theorem callW_flat {Φ : Nat → Option Cf} {f : FuncId} {cf : Cf} (hf : Φ f = some cf) (hp : cf.pure = true) {args : List V} {h h2 : Heap} {r : V} (ha : args.all flatN2 = true)
    (hb : evBodyW (callW Φ) cf (args.map nz2) [] = some (r, h2)) (hr : flatN2 r = true) : callW Φ (.fn (.func f) [] []) args h = some (nz2 r, h) := by
  refine callW_pure hf hp (h1 := h) (as := args.map nz2) ?_ hb (fz_flatN2 hr)
  simp only [List.nil_append, List.append_nil]
  exact mapH_map fun x hx => fz_flatN2 (List.all_eq_true.1 ha x hx)

/-- A row that stays. -/
theorem fz_sl {d : Nat} {h : Heap} {id ep off len z : Nat} {xs : List (List V)} {wr : Bool} (ho : h[id]? = some (.row z xs ep wr)) (hl : off + len ≤ xs.length)
    (hx : ∀ e ∈ xs, e.all scal = true) : fz (d + 2) h (.sl id ep off len) = some (.arr ((xs.drop off).take len), h.set id (.row z xs ep false)) := by
  have h1 : ∀ (h : Heap) (e : List V), e.all scal = true → mapH (fz (d + 1)) h e = some (e, h) := fun h e he => mapH_same fun y hy => fz_scal (List.all_eq_true.1 he y hy)
  have h2 : ∀ (l : List (List V)) (h : Heap), (∀ e ∈ l, e.all scal = true) → mapH (mapH (fz (d + 1))) h l = some (l, h) := by
    intro l
    induction l with
    | nil => intro h _; rfl
    | cons e l ih => intro h hh; simp only [mapH, h1 h e (hh e (by simp)), ih h (fun y hy => hh y (by simp [hy]))]
  show (match h[id]? with
      | some (.row z xs cur _) =>
        if ep = cur ∧ off + len ≤ xs.length then
          (mapH (mapH (fz (d + 1))) (h.set id (.row z xs cur false)) ((xs.drop off).take len)).map fun (p : List (List V) × Heap) => (V.arr p.1, p.2)
        else none
      | _ => none) = _
  rw [ho]
  simp only [true_and, hl, if_true]
  rw [h2 _ _ (fun e he => hx e (List.mem_of_mem_drop (List.mem_of_mem_take he)))]
  rfl

/-- The same call, of what the heap shows. -/
theorem callW_args {Φ : Nat → Option Cf} {f : FuncId} {cf : Cf} (hf : Φ f = some cf) (hp : cf.pure = true) {args as : List V} {h h1 h0 h0' : Heap} {r : V} (ha : as.all flat2 = true)
    (hm : mapH (fz fzDepth) h args = some (as, h1)) (hc : callW Φ (.fn (.func f) [] []) as h0 = some (r, h0')) : callW Φ (.fn (.func f) [] []) args h = some (r, h1) := by
  obtain ⟨n, hn⟩ := callW_some hc
  cases n with
  | zero => simp [evCall] at hn
  | succ n =>
    refine callW_of (n := n + 1) ?_
    have hsame : mapH (fz fzDepth) h0 as = some (as, h0) := mapH_same fun x hx => fz_flat2 (List.all_eq_true.1 ha x hx)
    simp only [evCall, hf, hp, if_true, List.nil_append, List.append_nil, hsame, hm] at hn ⊢
    split at hn
    · cases hn
    · rename_i r2 h2 hb
      simp only [Option.map_eq_some_iff, Prod.mk.injEq] at hn ⊢
      obtain ⟨p, h3, h4, _⟩ := hn
      exact ⟨p, h3, h4, trivial⟩

theorem fresh_sl (h : Heap) (o : Ob) : (h ++ [o])[h.length]? = some o := by simp
end Go.Ev

namespace Go.Ev
set_option linter.unusedVariables false
set_option linter.unusedSectionVars false
set_option linter.unusedSimpArgs false

/-- What is still to be run. -/
inductive It where
  | c (x : Cc)
  | o (l : List Cp)
  | b (id : Nat)

mutual
def WK (call : CallF) (rnd : Option Nat) (Q : Ex → St → Prop) : List It → St → Prop
  | [], s => Q .normal s
  | .c x :: k, s => WC call rnd x s fun e s' =>
    match e with
    | .normal => WK call rnd Q k s'
    | .exit i => WX call rnd Q i k s'
    | .ret => Q .ret s'
  | .o l :: k, s => WO call l s (WK call rnd Q k)
  | .b _ :: k, s => WK call rnd Q k s
def WX (call : CallF) (rnd : Option Nat) (Q : Ex → St → Prop) (i : Nat) : List It → St → Prop
  | [], s => Q (.exit i) s
  | .b j :: k, s => if i = j then WK call rnd Q k s else WX call rnd Q i k s
  | .c _ :: k, s => WX call rnd Q i k s
  | .o _ :: k, s => WX call rnd Q i k s
end

section
variable {call : CallF} {rnd : Option Nat} {Q : Ex → St → Prop} {s : St} {k : List It}

theorem WC_of_WK {x : Cc} (h : WK call rnd Q [.c x] s) : WC call rnd x s Q := by
  simp only [WK] at h
  refine WC.mono h fun e s' hq => ?_
  cases e with
  | normal => exact hq
  | exit i => simpa [WX] using hq
  | ret => exact hq

theorem kNil : WK call rnd Q [] s = Q .normal s := by simp only [WK]
theorem kMark {id : Nat} : WK call rnd Q (.b id :: k) s = WK call rnd Q k s := by simp only [WK]
theorem kSkip : WK call rnd Q (.c .skip :: k) s = WK call rnd Q k s := by simp only [WK, rSkip]
theorem kRet : WK call rnd Q (.c .ret :: k) s = Q .ret s := by simp only [WK, rRet]
theorem kExit {i : Nat} : WK call rnd Q (.c (.exit i) :: k) s = WX call rnd Q i k s := by simp only [WK, rExit]
theorem kRegion {l : List Cp} : WK call rnd Q (.c (.region l) :: k) s = WK call rnd Q (.o l :: k) s := by simp only [WK, rRegion]
theorem kDraw {Q : Ex → St → Prop} {ops : List Cp} {af : List (List Nat)} {fl : List Nat} {l : List Nat} (h : order ops.length af fl ops.length (List.replicate ops.length false) = some l) :
    WK call none Q (.c (.draw ops af fl) :: k) s = WK call none Q (.o (l.filterMap (ops[·]?)) :: k) s := by simp only [WK, rDraw h rfl]
/-- A region whose order is open, more orders than one: the first of them, and the others come to the same. -/
theorem kDraws {Q : Ex → St → Prop} {ops : List Cp} {af : List (List Nat)} {fl : List Nat} {l : List Nat} {ls : List (List Nat)} (h : orders ops.length af fl ops.length (List.replicate ops.length false) = some (l :: ls))
    (hw : WO call (l.filterMap (ops[·]?)) s (fun r => (∀ l' ∈ ls, WO call (l'.filterMap (ops[·]?)) s (fun r' => r' = r)) ∧ WK call none Q k r)) : WK call none Q (.c (.draw ops af fl) :: k) s := by
  obtain ⟨r, h1, h2, h3⟩ := hw
  have he : evAny call ops af fl ops.length (List.replicate ops.length false) s = some r := any_orders _ _ _ s h (fun l' hl' => by
    rcases List.mem_cons.1 hl' with rfl | hl'
    · exact h1
    · obtain ⟨r', q1, rfl⟩ := h2 l' hl'
      exact q1)
  simp only [WK]
  exact ⟨.normal, r, by simp [evCodeW, he], h3⟩
theorem kSeq {a b : Cc} : WK call rnd Q (.c (.seq a b) :: k) s = WK call rnd Q (.c a :: .c b :: k) s := by
  simp only [WK, rSeq]
  congr 1
  funext e s'
  cases e <;> simp only [seqQ, WX]
theorem kBlock {id : Nat} {x : Cc} : WK call rnd Q (.c (.block id x) :: k) s = WK call rnd Q (.c x :: .b id :: k) s := by
  simp only [WK, rBlock]
  congr 1
  funext e s'
  cases e with
  | normal => simp only [blockQ, WK]
  | exit i =>
    simp only [blockQ, WX]
    by_cases hi : i = id
    · simp only [hi, if_true]
    · simp only [hi, if_false]
  | ret => simp only [blockQ]
theorem kCond {c : Od} {a b : Cc} : WK call rnd Q (.c (.cond c a b) :: k) s = (match c.ev s.env with
    | .bool true => WK call rnd Q (.c a :: k) s
    | .bool false => WK call rnd Q (.c b :: k) s
    | _ => False) := by
  simp only [WK, rCond]
  cases h : c.ev s.env <;> simp only [OnB]
  rename_i t
  cases t <;> simp only [IfB_true, IfB_false]
theorem kOps : WK call rnd Q (.o [] :: k) s = WK call rnd Q k s := by simp only [WK, rNil]
theorem kOp {d : Option Nat} {op : Cop} {r : List Cp} : WK call rnd Q (.o (⟨d, op, none⟩ :: r) :: k) s = (match evOpC call s.env s.heap op with
    | some (v, h') => WK call rnd Q (.o r :: k) { s with env := putV s.env d v, heap := h' }
    | none => False) := by
  simp only [WK, rOp]
  cases evOpC call s.env s.heap op <;> rfl
theorem kGuard {d : Option Nat} {op : Cop} {j : Nat} {w : Bool} {r : List Cp} : WK call rnd Q (.o (⟨d, op, some (j, w)⟩ :: r) :: k) s = (match eget s.env j with
    | .bool b => (match b == w with
      | true => WK call rnd Q (.o (⟨d, op, none⟩ :: r) :: k) s
      | false => WK call rnd Q (.o r :: k) { s with env := putV s.env d V.non })
    | .tup [] => WK call rnd Q (.o r :: k) { s with env := putV s.env d V.non }
    | _ => False) := by
  simp only [WK, rGuard]
  generalize eget s.env j = x
  generalize WO call (⟨d, op, none⟩ :: r) s (WK call rnd Q k) = p
  generalize WO call r { s with env := putV s.env d V.non } (WK call rnd Q k) = q
  cases x
  case bool b =>
    show IfB (b == w) p q = _
    cases hbw : b == w <;> simp only [IfB_true, IfB_false, hbw]
  case tup cs => cases cs <;> rfl
  all_goals rfl
theorem xNil {i : Nat} : WX call rnd Q i [] s = Q (.exit i) s := by simp only [WX]
theorem xMark {i j : Nat} : WX call rnd Q i (.b j :: k) s = (if i = j then WK call rnd Q k s else WX call rnd Q i k s) := by simp only [WX]
theorem xCode {i : Nat} {x : Cc} : WX call rnd Q i (.c x :: k) s = WX call rnd Q i k s := by simp only [WX]
theorem xOps {i : Nat} {l : List Cp} : WX call rnd Q i (.o l :: k) s = WX call rnd Q i k s := by simp only [WX]

/-- A loop: what holds at each round's begin. -/
theorem kLoop {x : Cc} (I : Nat → St → Prop) (n : Nat) (h0 : I n s) (hr : ∀ m s, I m s → WK call rnd (fun e s' => match e with | .normal => ∃ j, j < m ∧ I j s' | .exit i => WX call rnd Q i k s' | .ret => Q .ret s') [.c x] s) :
    WK call rnd Q (.c (.loop x) :: k) s := by
  simp only [WK]
  refine WC_loop I h0 fun m s hI => ?_
  refine WC.mono (WC_of_WK (hr m s hI)) fun e s' hq => ?_
  cases e with
  | normal => exact hq
  | exit i => exact hq
  | ret => exact hq
end

/-- What is to be shown at a body's end. -/
def FinQ (rs : List Rv) (r : V × Heap) (e : Ex) (s : St) : Prop := (e = .normal ∨ e = .ret) ∧ ∃ h1 vs, takeMarks s.heap s.marks = some h1 ∧ evRes s.env h1 rs = some vs ∧ r = (pack vs, h1)
def FinV (rs : List Rv) (r : V) (e : Ex) (s : St) : Prop := (e = .normal ∨ e = .ret) ∧ ∃ h1 vs, takeMarks s.heap s.marks = some h1 ∧ evRes s.env h1 rs = some vs ∧ r = pack vs

theorem body_k {call : CallF} {cf : Cf} {args : List V} {h : Heap} {r : V} (hn : args.length ≤ cf.ntmps)
    (hw : ∀ env : List V, env.length = cf.ntmps → (∀ i, i < args.length → eget env i = eget args i) → WK call none (FinV cf.results r) [.c cf.body] { env := env, marks := [], heap := h }) :
    ∃ h', evBodyW call cf args h = some (r, h') := by
  have he := hw (args ++ List.replicate (cf.ntmps - args.length) V.non) (by simp; omega) (fun i hi => by simp [eget, List.getD_eq_getElem?_getD, List.getElem?_append_left hi])
  obtain ⟨e, s', h1, h2, ha, vs, h3, h4, rfl⟩ := WC_of_WK he
  exact ⟨ha, body_of hn ⟨e, s', h1, h2, ha, vs, h3, h4, rfl⟩⟩
attribute [simp] kNil kMark kSkip kRet kExit kRegion kSeq kBlock kCond kOps kOp kGuard xNil xMark xCode xOps FinV
end Go.Ev

namespace Go.Ev
open Go.RowKit
set_option linter.unusedVariables false
set_option linter.unusedSectionVars false
set_option linter.unusedSimpArgs false

section
variable {P : Program} {B : Nat} {S : Cells} {w : World} {κ : Kap} {h : Heap}

/-- One cell, stored through a pointer. -/
theorem store_ptr (inv : Inv P B S w κ h) {id off : Nat} {x z : V} {u v : Value} {h' : Heap} (hp : RV S w κ (.ptr id off) u) (hx : RV S w κ x v) (hc : x.isCell = true)
    (hh : evStoreV h 1 (.ptr id off) x = some (z, h')) :
    ∃ b κ', κ id = some (.blk b) ∧ u = .pointer (some ⟨b, off, none⟩) ∧ (∃ o, w.cell? ⟨b, off, none⟩ = some o) ∧ w.frozen? ⟨b, off, none⟩ = false ∧ z = V.non ∧
      Inv P B S (w.setCell ⟨b, off, none⟩ v) κ' h' ∧ Stp B S w κ S (w.setCell ⟨b, off, none⟩ v) κ' := by
  have hcells : x.cells = [x] := by cases x <;> first | rfl | simp [V.isCell] at hc
  unfold evStoreV at hh
  obtain ⟨⟨hlen, hall⟩, hq⟩ := ite_some' hh
  clear hh
  rw [hcells] at hq
  unfold evStore at hq
  simp only at hq
  split at hq
  case h_2 => cases hq
  rename_i cs hi
  split at hq
  case h_2 => cases hq
  rename_i cs' hset
  simp only [setOb_eq, Option.some.injEq, Prod.mk.injEq] at hq
  obtain ⟨rfl, rfl⟩ := hq
  obtain ⟨s1, rfl⟩ := setRange_some hset
  obtain ⟨b, c, el, fr, h1, h2, h3, h4, h5, h6⟩ := inv.obs _ _ hi
  simp only [RV] at hp
  obtain ⟨b', k1, rfl⟩ := hp
  rw [h1] at k1; cases k1
  have hcl := RL_length h4
  simp only [Array.length_toList] at hcl
  simp only [List.length_cons, List.length_nil] at s1
  have hb := (Array.getElem?_eq_some_iff.1 h2).1
  have hoff : off < c.size := by omega
  have hW := Inv.write inv h1 (.cells (c.setIfInBounds off v) el fr) (.blk b) (.refl _) rfl
    (.cells (cs.take off ++ [x] ++ cs.drop (off + [x].length))) (fun o hs => absurd hs (h6 o)) (fun sle kle => by
      refine ⟨b, _, el, fr, upd_same _ _ _, withBlock_same _ _ _ hb, by simpa using h3, ?_, ?_, h6⟩
      · have : (c.setIfInBounds off v).toList = c.toList.take off ++ [v] ++ c.toList.drop (off + 1) := by
          rw [Array.toList_setIfInBounds, List.set_eq_take_append_cons_drop]
          simp [hoff]
        rw [this]
        exact RL_append (RL_append (RL_take _ (RL.mono sle kle _ _ h4)) (RL_one.2 (RV.mono sle kle _ _ hx))) (RL_drop _ (RL.mono sle kle _ _ h4))
      · simp only [List.all_append, Bool.and_eq_true]
        refine ⟨⟨?_, by simp [hc]⟩, ?_⟩
        · exact List.all_eq_true.2 fun y hy => List.all_eq_true.1 h5 y (List.mem_of_mem_take hy)
        · exact List.all_eq_true.2 fun y hy => List.all_eq_true.1 h5 y (List.mem_of_mem_drop hy))
  refine ⟨b, upd κ id (.blk b), h1, rfl, ⟨c[off], by rw [cell?_of w b _ h2]; simp [hoff]⟩, ?_, rfl, ?_, ?_⟩
  · simp only [World.frozen?, h2]
    have := h3 off hoff
    simp only [Bool.and_eq_false_iff, decide_eq_false_iff_not]
    omega
  · rw [setCell_block w b off v h2]; exact hW.1
  · rw [setCell_block w b off v h2]; exact hW.2

theorem evAtadd_some {k : IntKind} {p d z : V} {h' : Heap} (hh : evAtadd h k p d = some (z, h')) :
    ∃ id off m n c, p = .ptr id off ∧ d = .int k n ∧ cellsAt h (.ptr id off) = some (.int k m :: c) ∧ z = .int k (k.wrap (m + n)) ∧ ∃ u, evStoreV h 1 (.ptr id off) (.int k (k.wrap (m + n))) = some (u, h') := by
  unfold evAtadd at hh
  split at hh
  case h_2 => cases hh
  rename_i id off
  split at hh
  case h_2 => cases hh
  rename_i q n
  split at hh
  case h_2 => cases hh
  rename_i r m c hc
  obtain ⟨⟨rfl, rfl⟩, hh⟩ := ite_some' hh
  split at hh
  case h_2 => cases hh
  rename_i u h1 hs
  simp only [Option.some.injEq, Prod.mk.injEq] at hh
  obtain ⟨rfl, rfl⟩ := hh
  exact ⟨id, off, m, n, c, rfl, rfl, hc, rfl, u, hs⟩

/-- What a body of one region says. -/
theorem prim_body {call : CallF} {lf nt : Nat} {rs : List Rv} {ops : List Cp} {pure : Bool} {args : List V} {x : V} {h' : Heap} (he : evBody call lf ⟨nt, rs, .region ops, pure⟩ args h = some (x, h')) :
    args.length ≤ nt ∧ ∃ s, evOps call ops { env := args ++ List.replicate (nt - args.length) V.non, marks := [], heap := h } = some s ∧ ∃ vs, takeMarks s.heap s.marks = some h' ∧ evRes s.env h' rs = some vs ∧ x = pack vs := by
  unfold evBody at he
  obtain ⟨hn, he⟩ := ite_none' he
  refine ⟨by simpa using hn, ?_⟩
  simp only [evCode] at he
  split at he
  · cases he
  · rename_i e s hne hev
    simp only [Option.map_eq_some_iff, Prod.mk.injEq] at hev
    obtain ⟨s', hs, rfl, rfl⟩ := hev
    refine ⟨s', hs, ?_⟩
    split at he
    · cases he
    · rename_i h1 ht
      split at he
      · rename_i v hv
        simp only [Option.some.injEq, Prod.mk.injEq] at he
        obtain ⟨rfl, rfl⟩ := he
        exact ⟨_, ht, hv, rfl⟩
      · rename_i vs hn hv
        simp only [Option.some.injEq, Prod.mk.injEq] at he
        obtain ⟨rfl, rfl⟩ := he
        refine ⟨_, ht, hv, ?_⟩
        unfold pack
        split
        · exact absurd rfl (hn _)
        · rfl
      · cases he
  · cases he

/-- Two arguments, no more. -/
theorem args2 {args : List V} {as : Array Value} (hr : RL S w κ args as.toList) (hl : args.length ≤ 2) (h1 : eget (args ++ List.replicate (2 - args.length) V.non) 1 ≠ V.non) :
    ∃ p d pv dv, args = [p, d] ∧ as = #[pv, dv] ∧ RV S w κ p pv ∧ RV S w κ d dv := by
  match args with
  | [] => exact absurd rfl h1
  | [p] => exact absurd rfl h1
  | [p, d] =>
    have hl := RL_length hr
    rcases as with ⟨as⟩
    match as with
    | [pv, dv] => simp only [RL] at hr; exact ⟨p, d, pv, dv, rfl, rfl, hr.1, hr.2.1⟩
    | [] => simp at hl
    | [_] => simp at hl
    | _ :: _ :: _ :: _ => simp at hl
  | _ :: _ :: _ :: _ => simp at hl

theorem args1 {args : List V} {as : Array Value} (hr : RL S w κ args as.toList) (hl : args.length ≤ 1) (h1 : eget (args ++ List.replicate (1 - args.length) V.non) 0 ≠ V.non) :
    ∃ p pv, args = [p] ∧ as = #[pv] ∧ RV S w κ p pv := by
  match args with
  | [] => exact absurd rfl h1
  | [p] =>
    have hl := RL_length hr
    rcases as with ⟨as⟩
    match as with
    | [pv] => simp only [RL] at hr; exact ⟨p, pv, rfl, rfl, hr.1⟩
    | [] => simp at hl
    | _ :: _ :: _ => simp at hl
  | _ :: _ :: _ => simp at hl

def primAdd (k : IntKind) : Cf := ⟨2, [.tmp 0], .region [⟨some 0, .atadd k (.t 0) (.t 1), none⟩], false⟩
def primStore (k : IntKind) : Cf := ⟨2, [], .region [⟨none, .atst k (.t 0) (.t 1), none⟩], false⟩
def primLoad (k : IntKind) : Cf := ⟨1, [.tmp 0], .region [⟨some 0, .atld k (.t 0), none⟩], false⟩
def primYes : Cf := ⟨1, [.tmp 0], .region [⟨some 0, .atld .u32 (.t 0), none⟩, ⟨some 0, .bin .neq (.t 0) (.c (.int .u32 0)), none⟩], false⟩
def primSlow : Cf := ⟨2, [], .region [⟨none, .onceIn (.t 0) (.t 1), none⟩, ⟨none, .call (.t 1) [], none⟩, ⟨none, .onceOut (.t 0), none⟩], false⟩

/-- A number that is raised, by its function. -/
theorem primAdd_body {k : IntKind} {f : FuncId} (hm : ∀ (b off : Nat) (m n : Int) (w : World), w.cell? ⟨b, off, none⟩ = some (.int k m) → w.frozen? ⟨b, off, none⟩ = false →
    Calls P f #[.pointer (some ⟨b, off, none⟩), .int k n] w fun e w' => e = .returned (.int k (k.wrap (m + n))) ∧ w' = w.setCell ⟨b, off, none⟩ (.int k (k.wrap (m + n)))) : BodyS P f (primAdd k) := by
  intro call hcall lf args as x h h' he B S w κ inv hr n
  obtain ⟨hl, s, hs, vs, ht, hv, rfl⟩ := prim_body he
  simp only [evOps, evCp, wanted] at hs
  split at hs
  case h_2 => cases hs
  rename_i s' hs'
  cases hs
  split at hs'
  case h_2 => cases hs'
  rename_i z h1 hop
  rw [fS_eq] at hs'
  cases hs'
  simp only [evOp, Od.ev] at hop
  obtain ⟨id, off, m, d, c, e0, e1, hcell, rfl, u, hst⟩ := evAtadd_some hop
  obtain ⟨p, q, pv, dv, rfl, rfl, hp, hq⟩ := args2 hr hl (by rw [e1]; intro e; cases e)
  simp only [eget, List.length_cons, List.length_nil, Nat.sub_self, List.replicate_zero, List.append_nil, List.getD_cons_zero, List.getD_cons_succ] at e0 e1
  subst e0 e1
  simp only [takeMarks, Option.some.injEq] at ht
  subst ht
  simp [evRes, putV, eget] at hv
  subst hv
  have hq' := hq
  simp only [RV] at hq
  subst hq
  obtain ⟨b, κ', hk, rfl, ⟨o, hco⟩, hf, _, inv', st'⟩ := store_ptr inv hp (x := .int k (k.wrap (m + d))) (v := .int k (k.wrap (m + d))) (by simp only [RV]) rfl hst
  obtain ⟨b', o', hb', hcel⟩ := cellsAt_sound inv hp hcell
  cases hb'
  obtain ⟨v, h2, h3⟩ := hcel 0 _ rfl
  simp only [RV] at h3
  subst h3
  refine callsIn_wide.2 ((hm b off m d w h2 hf).mono fun e w' he' => ?_)
  obtain ⟨rfl, rfl⟩ := he'
  exact ⟨_, S, κ', rfl, inv', st', by simp only [pack, RV]⟩

/-- A number that is stored, by its function. -/
theorem primStore_body {k : IntKind} {f : FuncId} (hm : ∀ (b off : Nat) (o : Value) (n : Int) (w : World), w.cell? ⟨b, off, none⟩ = some o → w.frozen? ⟨b, off, none⟩ = false →
    Calls P f #[.pointer (some ⟨b, off, none⟩), .int k n] w fun e w' => e = .returned (.tuple #[]) ∧ w' = w.setCell ⟨b, off, none⟩ (.int k n)) : BodyS P f (primStore k) := by
  intro call hcall lf args as x h h' he B S w κ inv hr n
  obtain ⟨hl, s, hs, vs, ht, hv, rfl⟩ := prim_body he
  simp only [evOps, evCp, wanted] at hs
  split at hs
  case h_2 => cases hs
  rename_i s' hs'
  cases hs
  split at hs'
  case h_2 => cases hs'
  rename_i z h1 hop
  rw [fS_eq] at hs'
  cases hs'
  simp only [evOp, Od.ev] at hop
  unfold evAtst at hop
  split at hop
  case h_2 => cases hop
  rename_i id off e0
  split at hop
  case h_2 => cases hop
  rename_i q d e1
  obtain ⟨rfl, hst⟩ := ite_some' hop
  obtain ⟨p, q', pv, dv, rfl, rfl, hp, hq⟩ := args2 hr hl (by rw [e1]; intro e; cases e)
  simp only [eget, List.length_cons, List.length_nil, Nat.sub_self, List.replicate_zero, List.append_nil, List.getD_cons_zero, List.getD_cons_succ] at e0 e1
  subst e0 e1
  simp only [takeMarks, Option.some.injEq] at ht
  subst ht
  simp [evRes] at hv
  subst hv
  have hq' := hq
  simp only [RV] at hq
  subst hq
  obtain ⟨b, κ', hk, rfl, ⟨o, hco⟩, hf, _, inv', st'⟩ := store_ptr inv hp hq' rfl hst
  refine callsIn_wide.2 ((hm b off o d w hco hf).mono fun e w' he' => ?_)
  obtain ⟨rfl, rfl⟩ := he'
  exact ⟨_, S, κ', rfl, inv', st', by simp [pack, RV, RL]⟩

theorem evAtld_some {k : IntKind} {p z : V} {h' : Heap} (hh : evAtld h k p = some (z, h')) : ∃ m c, cellsAt h p = some (.int k m :: c) ∧ z = .int k m ∧ h' = h := by
  unfold evAtld at hh
  split at hh
  case h_2 => cases hh
  rename_i r m c hc
  obtain ⟨rfl, hh⟩ := ite_some' hh
  simp only [Option.some.injEq, Prod.mk.injEq] at hh
  obtain ⟨rfl, rfl⟩ := hh
  exact ⟨m, c, hc, rfl, rfl⟩

/-- A number that is read, by its function. -/
theorem primLoad_body {k : IntKind} {f : FuncId} (hm : ∀ (b off : Nat) (m : Int) (w : World), w.cell? ⟨b, off, none⟩ = some (.int k m) →
    Calls P f #[.pointer (some ⟨b, off, none⟩)] w fun e w' => e = .returned (.int k m) ∧ w' = w) : BodyS P f (primLoad k) := by
  intro call hcall lf args as x h h' he B S w κ inv hr n
  obtain ⟨hl, s, hs, vs, ht, hv, rfl⟩ := prim_body he
  simp only [evOps, evCp, wanted] at hs
  split at hs
  case h_2 => cases hs
  rename_i s' hs'
  cases hs
  split at hs'
  case h_2 => cases hs'
  rename_i z h1 hop
  rw [fS_eq] at hs'
  cases hs'
  simp only [evOp, Od.ev] at hop
  obtain ⟨m, c, hcell, rfl, rfl⟩ := evAtld_some hop
  obtain ⟨p, pv, rfl, rfl, hp⟩ := args1 hr hl (by intro e; rw [e] at hcell; cases hcell)
  simp only [takeMarks, Option.some.injEq] at ht
  subst ht
  simp [evRes, putV, eget] at hv
  subst hv
  obtain ⟨b, o, rfl, hcel⟩ := cellsAt_sound inv hp hcell
  obtain ⟨v, h2, h3⟩ := hcel 0 _ rfl
  simp only [RV] at h3
  subst h3
  refine callsIn_wide.2 ((hm b o m w h2).mono fun e w' he' => ?_)
  obtain ⟨rfl, rfl⟩ := he'
  exact ⟨_, S, κ, rfl, inv, .refl _ _ _ _, by simp only [pack, RV]⟩

/-- Is it another number than 0? -/
theorem primYes_body {f : FuncId} (hm : ∀ (b off : Nat) (m : Int) (w : World), w.cell? ⟨b, off, none⟩ = some (.int .u32 m) →
    Calls P f #[.pointer (some ⟨b, off, none⟩)] w fun e w' => e = .returned (.bool (m != 0)) ∧ w' = w) : BodyS P f primYes := by
  intro call hcall lf args as x h h' he B S w κ inv hr n
  obtain ⟨hl, s, hs, vs, ht, hv, rfl⟩ := prim_body he
  simp only [evOps] at hs
  split at hs
  case h_2 => cases hs
  rename_i s1 hs1
  split at hs
  case h_2 => cases hs
  rename_i s2 hs2
  cases hs
  simp only [evCp, wanted] at hs1
  split at hs1
  case h_2 => cases hs1
  rename_i z h1 hop
  rw [fS_eq] at hs1
  cases hs1
  simp only [evOp, Od.ev] at hop
  obtain ⟨m, c, hcell, rfl, rfl⟩ := evAtld_some hop
  obtain ⟨p, pv, rfl, rfl, hp⟩ := args1 hr hl (by intro e; rw [e] at hcell; cases hcell)
  simp [evCp, wanted, evOp, Od.ev, putV, eget, binV, intCmp, okV, fV_eq, fS_eq] at hs2
  subst hs2
  simp only [takeMarks, Option.some.injEq] at ht
  subst ht
  simp [evRes, putV, eget] at hv
  subst hv
  obtain ⟨b, o, rfl, hcel⟩ := cellsAt_sound inv hp hcell
  obtain ⟨v, h2, h3⟩ := hcel 0 _ rfl
  simp only [RV] at h3
  subst h3
  refine callsIn_wide.2 ((hm b o m w h2).mono fun e w' he' => ?_)
  obtain ⟨rfl, rfl⟩ := he'
  exact ⟨_, S, κ, rfl, inv, .refl _ _ _ _, by simp [pack, RV]⟩
end
end Go.Ev

namespace Go.Ev
open Go.RowKit
set_option linter.unusedVariables false
set_option linter.unusedSectionVars false
set_option linter.unusedSimpArgs false

section
variable {P : Program} {B : Nat} {S : Cells} {w : World} {κ : Kap} {h : Heap}

/-- Some operations of a region, by the evaluator. -/
theorem ops_part {call : CallF} (hcall : CallS P call) {ops : Array Oper} {n : Nat} {Q : Exit → Act → World → Prop} {rest : List Nat} :
    ∀ (is : List Nat) (cps : List Cp), is.map (fun i => (ops[i]?).bind (cOper P ops)) = cps.map some → ∀ {S : Cells} {w : World} {κ : Kap} {s : St} {a : Act} {q : St → Prop}, WO call cps s q → SR P B S w κ s a →
    (∀ s' a' w' S' κ', q s' → SR P B S' w' κ' s' a' → Stp B S w κ S' w' κ' → wpOpsIn (Fr none) n P ops Q rest a' w') → wpOpsIn (Fr none) n P ops Q (is ++ rest) a w
  | [], [], _, S, w, κ, s, a, q, hw, hs, hk => by
    obtain ⟨s', h1, h2⟩ := hw
    simp only [evOps, Option.some.injEq] at h1
    subst h1
    exact hk _ _ _ _ _ h2 hs (.refl _ _ _ _)
  | [], _ :: _, hm, _, _, _, _, _, _, _, _, _ => by simp at hm
  | _ :: _, [], hm, _, _, _, _, _, _, _, _, _ => by simp at hm
  | i :: is, c :: cps, hm, S, w, κ, s, a, q, hw, hs, hk => by
    simp only [List.map_cons, List.cons.injEq, Option.bind_eq_some_iff] at hm
    obtain ⟨⟨o, ho, hc⟩, hm⟩ := hm
    obtain ⟨s', h1, h2⟩ := hw
    simp only [evOps] at h1
    split at h1
    case h_2 => cases h1
    rename_i s1 hs1
    rw [List.cons_append, wpOpsIn_cons]
    refine wpOpIn_step ho (fun K' hK' => cp_sound hcall hc hs1 hs (fun a' w' S' κ' hs' st => hK' _ _ ?_))
    exact ops_part hcall is cps hm ⟨s', h1, h2⟩ hs' (fun s2 a2 w2 S2 κ2 q2 r2 st2 => hk s2 a2 w2 S2 κ2 q2 r2 (st.trans st2))

/-- One operation, by hand. -/
theorem op_hand {ops : Array Oper} {n : Nat} {Q : Exit → Act → World → Prop} {rest : List Nat} {i : Nat} {o : Oper} (ho : ops[i]? = some o) (hg : o.guard = none) (hnd : ∀ c, o.op ≠ .defer c)
    {a : Act} {w w' : World} {v : Value} (hrun : (execOp a.eval o).run P w = .ok (.value v) w') (hk : wpOpsIn (Fr none) n P ops Q rest (a.put o.dst v) w') : wpOpsIn (Fr none) n P ops Q (i :: rest) a w := by
  rw [wpOpsIn_cons]
  refine wpOpIn_step ho (fun K' hK' => ?_)
  have : Region.wanted o (yielded ops a.tmps) = true := by
    unfold Region.wanted
    rw [hg]
  rw [if_pos this]
  refine ⟨fun f _ => trivial, ?_⟩
  rw [Oper.semAt_eq _ _ _ hnd, hrun]
  exact hK' _ _ hk

/-- The end of a body without marks. -/
theorem fin_ret {F : Fence} {n : Nat} {fn : Func} {R : Ending → World → Prop} {s : St} {a : Act} (hs : SR P B S w κ s a) (hm : s.marks = []) {cr : List Rv} (hc : fn.results.toList.mapM (cRes P) = some cr)
    {vs : List V} (he : evRes s.env s.heap cr = some vs) (hR : ∀ v, RV S w κ (pack vs) v → R (.returned v) w) : bodyPostM F n P fn R .ret a w := by
  have hk := hs.mks
  rw [hm] at hk
  have hd : a.defers = [] := by
    cases hd : a.defers with
    | nil => rfl
    | cons d ds => rw [hd] at hk; exact hk.elim
  show LeavesInM F n P fn a.tmps R a.defers .returning w
  rw [hd]
  obtain ⟨v, h1, h2⟩ := results_run hs.inv hs.env hc he rfl
  exact ⟨v, h1, hR v h2⟩

theorem RL_of {xs : List V} {vs : List Value} (hl : xs.length = vs.length) (hh : ∀ (i : Nat) (x : V) (v : Value), xs[i]? = some x → vs[i]? = some v → RV S w κ x v) : RL S w κ xs vs := by
  induction xs generalizing vs with
  | nil => cases vs with
    | nil => simp [RL]
    | cons v vs => simp at hl
  | cons x xs ih =>
    cases vs with
    | nil => simp at hl
    | cons v vs =>
      simp only [RL]
      exact ⟨hh 0 x v rfl rfl, ih (by simpa using hl) (fun i y u hy hu => hh (i + 1) y u (by simpa using hy) (by simpa using hu))⟩

/-- A cell with none of the heap is what it is, whatever the heap. -/
theorem RV_scal {κ' : Kap} {x : V} {v : Value} (hx : scal x = true) (h : RV S w κ x v) : RV S w κ' x v := by
  cases x <;> simp [scal] at hx <;> simpa [RV] using h
theorem RL_scal {κ' : Kap} : ∀ {xs : List V} {vs : List Value}, xs.all scal = true → RL S w κ xs vs → RL S w κ' xs vs
  | [], [], _, _ => by simp [RL]
  | [], _ :: _, _, h => by simp [RL] at h
  | _ :: _, [], _, h => by simp [RL] at h
  | x :: xs, v :: vs, hx, h => by
    simp only [List.all_cons, Bool.and_eq_true] at hx
    simp only [RL] at h ⊢
    exact ⟨RV_scal hx.1 h.1, RL_scal hx.2 h.2⟩

/-- A row is no more written. -/
theorem Inv.still (inv : Inv P B S w κ h) {id sz : Nat} {xs : List (List V)} {ep : Nat} {wr : Bool} (hi : h[id]? = some (.row sz xs ep wr)) : Inv P B S w κ (h.set id (.row sz xs ep false)) := by
  have hlt : id < h.length := (List.getElem?_eq_some_iff.1 hi).1
  refine ⟨fun i o ho => ?_, inv.dis, fun i k hk => by rw [List.length_set]; exact inv.dom i k hk, inv.sb, inv.bw⟩
  by_cases e : i = id
  · subst e
    rw [List.getElem?_set_self hlt] at ho
    cases ho
    obtain ⟨b, st, cp, c, el, fr, g1, g2, g3, g4, g5, g6, g7, g8, g9, g10, g11⟩ := row_elem inv hi
    exact ⟨b, st, cp, c, el, fr, g1, g2, g3, g4, g5, g6, g7, g8, g9, g10, fun h => by cases h⟩
  · rw [List.getElem?_set_ne (Ne.symm e)] at ho
    exact inv.obs i o ho

/-- A row's next epoch. -/
theorem Inv.bump (inv : Inv P B S w κ h) {id sz : Nat} {xs : List (List V)} {ep : Nat} {wr : Bool} (hi : h[id]? = some (.row sz xs ep wr)) {b st cp : Nat} (hk : κ id = some (.row ep b st cp sz)) :
    Inv P B S w (upd κ id (.row (ep + 1) b st cp sz)) (h.set id (.row sz xs (ep + 1) wr)) ∧ Stp B S w κ S w (upd κ id (.row (ep + 1) b st cp sz)) := by
  obtain ⟨b', st', cp', c, el, fr, g1, g2, g3, g4, g5, g6, g7, g8, g9, g10, g11⟩ := row_elem inv hi
  rw [hk] at g1
  cases g1
  have hW := Inv.write inv hk (.cells c el fr) (.row (ep + 1) b st cp sz) (.later _ _ _ _ _ _ _ _ _ (by omega)) rfl (.row sz xs (ep + 1) wr) (fun o _ => by
      show (World.withBlock w b (.cells c el fr)).cell? ⟨b, o, none⟩ = w.cell? ⟨b, o, none⟩
      rw [withBlock_self w b _ g2]) (fun sle kle => ⟨b, st, cp, c, el, fr, upd_same _ _ _, withBlock_same _ _ _ (Array.getElem?_eq_some_iff.1 g2).1, g3, g4, g5, g6, g7, g8, fun i e hi he => RL.mono sle kle _ _ (g9 i e hi he), g10, g11⟩)
  have e : World.withBlock w (Ko.block (.row ep b st cp sz)) (.cells c el fr) = w := withBlock_self w b _ g2
  rw [e] at hW
  exact hW

/-- What a slice of ours is. -/
theorem sl_sound (inv : Inv P B S w κ h) {id sz off len : Nat} {xs : List (List V)} {ep : Nat} {wr : Bool} (hi : h[id]? = some (.row sz xs ep wr)) {u : Value} (hx : RV S w κ (.sl id ep off len) u) :
    ∃ b st cp a, κ id = some (.row ep b st cp sz) ∧ u = .slice (some a) len (st + cp - off) ∧ st ≤ off ∧ off + len ≤ st + cp ∧ (st + cp - off = 0 ∨ a = ⟨b, (off - st) * sz, none⟩) := by
  obtain ⟨b, st, cp, c, el, fr, g1, g2, g3, g4, g5, g6, g7, g8, g9, g10, g11⟩ := row_elem inv hi
  simp only [RV] at hx
  obtain ⟨e', b', st', cp', sz', a, cc, k1, k2, rfl, kl, k3⟩ := hx
  rw [g1] at k1; cases k1
  obtain ⟨k4, k5, k6, k7⟩ := k3 rfl
  subst k6
  exact ⟨b, st, cp, a, g1, rfl, k4, k5, k7⟩

theorem cap_run {t e T : TypeId} (ht : P.underlying t = some (.slice e)) {a : Option Addr} {n c : Nat} : (Builtin.cap_ #[t] T #[.slice a n c]).run P w = .ok (.int .i64 c) w := by
  simp [Builtin.cap_, run_underlying ht, goInt]

/-- 'append(s, make(..)...)' beyond the capacity: a new row. -/
theorem zapp_grows {t u T e : TypeId} {q : Nat × Nat × List V} (ht : P.underlying t = some (.slice e)) {ik : IntKind} (hu : P.underlying u = some (.int ik)) (hq : elemT P e = some q)
    {base : Option Addr} {sLen sCap k : Nat} {os : List Value} (ho : (Builtin.firstCells q.1 sLen (.slice base sLen sCap)).run P w.drew = .ok os.toArray w.drew)
    (hle : sLen ≤ sCap) (hc : ¬ sLen + k ≤ sCap) (hroom : (sLen + k) * q.2.1 ≤ roomB) :
    ∃ cap c zs, sLen + k ≤ cap ∧ RL S w κ q.2.2 zs ∧ c.toList = os ++ (List.replicate (cap - sLen) zs).flatten ∧
    (Builtin.append_ #[t, u] T #[.slice base sLen sCap, .int .i64 k]).run P w = .ok (.slice (some ⟨w.heap.size, 0, none⟩) (sLen + k) cap) (w.drew.alloc (.cells c e)) := by
  obtain ⟨i, zv, z0, hi, hv, hz, rfl, n1, n2, n3, r1, r2, r3⟩ := elemT_run hq
  obtain ⟨hrz, hcz⟩ := ofConst_cells (S := S) (w := w) (κ := κ) hz
  simp only at hroom ho
  have hfit := growslice_fits (need := sLen + k) (old := sCap) (bytes := i.bytes) (by omega) hroom
  let cap := (Question.appendCap (sLen + k) sCap e).cut (w.tape w.drawn (.appendCap (sLen + k) sCap e))
  have hcap : sLen + k ≤ cap := by simp only [cap, Question.cut]; omega
  have hroom' : (sLen + k) * i.bytes ≤ 140737488355328 := hroom
  have hk1 : k ≤ 140737488355328 := by
    have h1 : k * 1 ≤ (sLen + k) * i.bytes := Nat.mul_le_mul (by omega) (by omega)
    omega
  have hk2 : k * i.bytes ≤ 140737488355328 := Nat.le_trans (Nat.mul_le_mul_right _ (by omega)) hroom'
  have hwr : IntKind.i64.wrap (k : Int) = k := by
    simp only [IntKind.wrap, IntKind.bits, IntKind.signed, Bool.true_and, decide_eq_true_eq, ge_iff_le]
    split <;> omega
  have hk3 : ((k : Int) * (i.bytes : Int)) ≤ 140737488355328 := by
    rw [← Int.natCast_mul]
    omega
  have h0 : ¬ k * i.size = 0 := by
    intro h
    rcases Nat.mul_eq_zero.1 h with h | h
    · subst h; exact hc (by simpa using hle)
    · exact n1 h
  refine ⟨cap, os.toArray ++ Builtin.zeroCells zv.cells k ++ Builtin.zeroCells zv.cells (cap - (sLen + k)), zv.cells.toList, hcap, hrz, ?_, ?_⟩
  · simp only [Array.toList_append, zeroCells_eq _ _ _ n3 n1]
    rw [List.append_assoc, ← List.flatten_append, List.replicate_append_replicate]
    congr 4
    omega
  · simp only [Builtin.append_, List.getElem?_toArray, List.getElem?_cons_zero, List.getElem?_cons_succ, Sem.run_bind, run_underlying ht, run_underlying hu, Result.andThen_ok, r2]
    simp only [Sem.run_bind, run_underlying hu, Result.andThen_ok, Sem.run_pure, if_true, asInt, asIntOf, hwr, r3]
    rw [if_neg (by omega)]
    simp only [Sem.run_bind, Sem.run_pure, Result.andThen_ok, r3]
    rw [if_neg (by
      have : (2 : Int) ^ 48 = 281474976710656 := by decide
      omega)]
    simp only [Sem.run_bind, Sem.run_pure, Result.andThen_ok, Int.toNat_natCast, if_neg hc, r3]
    rw [if_neg (by
      rintro ⟨h2, _⟩
      have : IntKind.i64.max = 9223372036854775807 := by decide
      have h1 : (sLen + k) * 1 ≤ (sLen + k) * i.bytes := Nat.mul_le_mul_left _ (by omega)
      omega)]
    simp only [Sem.run_bind, Sem.run_pure, Result.andThen_ok, r3]
    rw [if_neg (by
      have : (2 : Nat) ^ 48 = 281474976710656 := by decide
      omega)]
    simp only [Sem.run_bind, Sem.run_pure, Result.andThen_ok, r3, run_choose, Question.forced, Bool.false_eq_true, if_false, run_askRoom]
    have ho1 : (Builtin.firstCells i.size sLen (.slice base sLen sCap)).run P { w with drawn := w.drawn + 1 } = .ok os.toArray { w with drawn := w.drawn + 1 } := ho
    rw [ho1]
    simp only [Result.andThen_ok, Bool.not_true, Bool.false_eq_true, if_false, if_neg h0, Sem.run_bind, r1, Sem.run_pure, newRow, run_newObj]
    rfl

theorem elems_len {x : V} {es : List (List V)} {m : Nat} (he : elemsOf h x = some es) (hm : lenV .l h x = some m) : es.length = m := by
  cases x <;> simp only [lenV, Option.some.injEq, reduceCtorEq] at hm
  case nils => simp only [elemsOf, Option.some.injEq] at he; subst he; exact hm
  case arr => simp only [elemsOf, Option.some.injEq] at he; subst he; exact hm
  case sl =>
    simp only [elemsOf] at he
    split at he
    · obtain ⟨hc, rfl⟩ := ite_some he
      simp; omega
    · cases he

theorem evIns_some {sz by_ : Nat} {s i x z : V} {h' : Heap} (hh : evIns h sz by_ s i x = some (z, h')) : ∃ (n : Int) (l : Nat), i = .int .i64 n ∧ lenV .l h s = some l ∧
    ((n = l ∧ (∃ m, lenV .l h x = some (m + 1)) ∧ evApp h sz by_ s x = some (z, h')) ∨
     (n ≠ l ∧ ∃ id ep off len xs jd cj oj ys zj wj e, s = .sl id ep off len ∧ h[id]? = some (.row sz xs ep true) ∧ x = .sl jd cj oj 1 ∧ h[jd]? = some (.row zj ys cj wj) ∧ ys[oj]? = some e ∧
       0 ≤ n ∧ n < len ∧ off + len ≤ xs.length ∧ (len + 1) * by_ ≤ roomB ∧ e.length = sz ∧ jd ≠ id ∧ (∀ e ∈ xs, e.all scal = true) ∧ (∀ e ∈ ys, e.all scal = true) ∧
       z = .sl id (ep + 1) off (len + 1) ∧ h' = (h.set jd (.row zj ys cj false)).set id (.row sz (xs.take (off + n.toNat) ++ [e] ++ (xs.drop (off + n.toNat)).take (len - n.toNat)) (ep + 1) true))) := by
  unfold evIns at hh
  split at hh
  case h_2 => cases hh
  rename_i n
  split at hh
  case h_2 => cases hh
  rename_i l hl
  refine ⟨n, l, rfl, hl, ?_⟩
  split at hh
  · rename_i hn
    split at hh
    · rename_i m hm
      exact .inl ⟨hn, ⟨m, hm⟩, hh⟩
    · cases hh
  · rename_i hn
    right
    refine ⟨hn, ?_⟩
    split at hh
    case h_2 => cases hh
    rename_i id ep off len
    split at hh
    case h_2 => cases hh
    rename_i zz xs cur hi
    split at hh
    case h_2 => cases hh
    rename_i jd ej oj
    split at hh
    case h_2 => cases hh
    rename_i zj ys cj wj hj
    split at hh
    case h_2 => cases hh
    rename_i e he
    obtain ⟨⟨⟨c1, c2, c3, c4, c5, c6⟩, c7, c8, c9, c10, c11⟩, hh2⟩ := ite_some' hh
    clear hh
    subst c3; subst c4; subst c9
    simp only [setOb_eq, Option.some.injEq, Prod.mk.injEq] at hh2
    obtain ⟨rfl, rfl⟩ := hh2
    simp only [List.all_eq_true] at c10 c11
    exact ⟨id, ep, off, len, xs, jd, ej, oj, ys, zj, wj, e, rfl, hi, rfl, hj, he, c1, c2, c5, c6, c7, c8, fun e he => List.all_eq_true.2 (c10 e he), fun e he => List.all_eq_true.2 (c11 e he), rfl, rfl⟩

theorem args3 {args : List V} {us : Array Value} (hr : RL S w κ args us.toList) (hl : args.length ≤ 3) (h1 : eget (args ++ List.replicate (3 - args.length) V.non) 2 ≠ V.non) :
    ∃ p d r pv dv rv, args = [p, d, r] ∧ us = #[pv, dv, rv] ∧ RV S w κ p pv ∧ RV S w κ d dv ∧ RV S w κ r rv := by
  match args with
  | [] => exact absurd rfl h1
  | [p] => exact absurd rfl h1
  | [p, d] => exact absurd rfl h1
  | [p, d, r] =>
    have hl := RL_length hr
    rcases us with ⟨us⟩
    match us with
    | [pv, dv, rv] => simp only [RL] at hr; exact ⟨p, d, r, pv, dv, rv, rfl, rfl, hr.1, hr.2.1, hr.2.2.1⟩
    | [] => simp at hl
    | [_] => simp at hl
    | [_, _] => simp at hl
    | _ :: _ :: _ :: _ :: _ => simp at hl
  | _ :: _ :: _ :: _ :: _ => simp at hl

/-- What the evaluator's word says of a call with three arguments. -/
theorem prim3 {call : CallF} {lf : Nat} {op : Cop} {args : List V} {us : Array Value} {x : V} {h' : Heap} (hr : RL S w κ args us.toList) (hn : ∀ f as, op ≠ .call f as)
    (h1 : evOp (args ++ List.replicate (3 - args.length) V.non) h op = none ∨ eget (args ++ List.replicate (3 - args.length) V.non) 2 ≠ V.non)
    (he : evBody call lf ⟨3, [.tmp 0], .region [⟨some 0, op, none⟩], false⟩ args h = some (x, h')) :
    ∃ p d r pv dv rv, args = [p, d, r] ∧ us = #[pv, dv, rv] ∧ RV S w κ p pv ∧ RV S w κ d dv ∧ RV S w κ r rv ∧ evOp [p, d, r] h op = some (x, h') := by
  obtain ⟨hl, s, hs, vs, ht, hv, rfl⟩ := prim_body he
  simp only [evOps] at hs
  split at hs
  case h_2 => cases hs
  rename_i s1 hs'
  simp only [Option.some.injEq] at hs
  subst hs
  have key : (match evOp (args ++ List.replicate (3 - args.length) V.non) h op with
      | some (v, h) => fS (putV (args ++ List.replicate (3 - args.length) V.non) (some 0) v) fun env => some ({ env, marks := [], heap := h } : St)
      | none => none) = some s1 := by
    simp only [evCp, wanted] at hs'
    cases op <;> first | exact absurd rfl (hn _ _) | exact hs'
  split at key
  case h_2 => cases key
  rename_i z h2 hop
  rcases h1 with h1 | h1
  · rw [h1] at hop; cases hop
  obtain ⟨p, d, r, pv, dv, rv, rfl, rfl, hp, hq, hz⟩ := args3 hr hl h1
  rw [fS_eq] at key
  cases key
  simp only [takeMarks, Option.some.injEq] at ht
  subst ht
  simp [evRes, putV, eget] at hv
  subst hv
  exact ⟨p, d, r, pv, dv, rv, rfl, rfl, hp, hq, hz, by simpa [pack] using hop⟩

/-- A region whose order is open, by the evaluator. -/
theorem draw_part (hP : P.follows .mixedOrders = true) {call : CallF} (hcall : CallS P call) {id : Nat} {ops : Array Oper} {n : Nat} {Q : Exit → Act → World → Prop} (cps : List Cp) (hm : ops.toList.mapM (cOper P ops) = some cps)
    (l : List Nat) (ho : order cps.length (ops.toList.map afterL) (flOf ops cps) cps.length (List.replicate cps.length false) = some l) {cps' : List Cp} (h2 : l.filterMap (cps[·]?) = cps')
    {s : St} {a : Act} {q : St → Prop} (hw : WO call cps' s q) (hs : SR P B S w κ s a)
    (hk : ∀ s' a' w' S' κ', q s' → SR P B S' w' κ' s' a' → Stp B S w κ S' w' κ' → Q .normal a' w') : (Code.region id ops true).wpIn (Fr none) n P Q a w := by
  have hc : cCode P (.region id ops true) = some (.draw cps (ops.toList.map afterL) (flOf ops cps)) := by simp [cCode, hm]
  have hW : WC call none (.draw cps (ops.toList.map afterL) (flOf ops cps)) s (fun e s' => e = .normal ∧ q s') := by
    rw [rDraw ho h2]
    obtain ⟨s', h3, h4⟩ := hw
    exact ⟨s', h3, rfl, h4⟩
  obtain ⟨e, s', h3, rfl, h4⟩ := hW
  exact code_sound hP hcall 0 _ _ hc none none s .normal s' h3 n hs trivial Q (fun a' w' S' κ' h5 h6 => hk s' a' w' S' κ' h4 h5 h6)

/-- A row, as far as we know it, cut. -/
theorem Inv.cut (inv : Inv P B S w κ h) {id sz : Nat} {xs : List (List V)} {ep : Nat} (hi : h[id]? = some (.row sz xs ep true)) {b st cp : Nat} (hk : κ id = some (.row ep b st cp sz)) {k : Nat} (hst : st ≤ k) (hkl : k ≤ xs.length) :
    Inv P B S w κ (h.set id (.row sz (xs.take k) ep true)) := by
  have hlt : id < h.length := (List.getElem?_eq_some_iff.1 hi).1
  refine ⟨fun i o ho => ?_, inv.dis, fun i k hk => by rw [List.length_set]; exact inv.dom i k hk, inv.sb, inv.bw⟩
  by_cases e : i = id
  · subst e
    rw [List.getElem?_set_self hlt] at ho
    cases ho
    obtain ⟨b', st', cp', c, el, fr, g1, g2, g3, g4, g5, g6, g7, g8, g9, g10, g11⟩ := row_elem inv hi
    rw [hk] at g1; cases g1
    refine ⟨b, st, cp, c, el, fr, hk, g2, g3, g4, g5, by simp; omega, by simp; omega, fun e he => g8 e (List.mem_of_mem_take he), fun j e hj he => ?_, fun o _ => g11 rfl o, g11⟩
    rw [List.getElem?_take] at he
    split at he
    · exact g9 j e hj he
    · cases he
  · rw [List.getElem?_set_ne (Ne.symm e)] at ho
    exact inv.obs i o ho

/-- A row that was made aside becomes the next epoch of one of ours. -/
theorem rebase {S3 : Cells} {w3 : World} {κ3 : Kap} (inv : Inv P B S w κ h) {id sz : Nat} {xs : List (List V)} {cur : Nat} {wr : Bool} (hi : h[id]? = some (.row sz xs cur wr))
    {ys zs : List (List V)} (inv3 : Inv P w.heap.size S3 w3 κ3 [.row sz ys 0 true]) (st3 : Stp w.heap.size S w noK S3 w3 κ3) (hys : ∀ e ∈ ys, e.all scal = true) (hzs : ∀ e ∈ zs, e.length = sz ∧ e.all V.isCell = true) {len : Nat} {v : Value}
    (hv : RV S3 w3 κ3 (.sl 0 0 0 len) v) (hlen : len = ys.length) (hpos : 0 < len) :
    ∃ κ', Inv P B S3 w3 κ' (h.set id (.row sz (zs ++ ys) (cur + 1) true)) ∧ Stp B S w κ S3 w3 κ' ∧ RV S3 w3 κ' (.sl id (cur + 1) zs.length len) v := by
  obtain ⟨b0, st0, cp0, _, _, _, g1, _⟩ := row_elem inv hi
  obtain ⟨b, st, cp, a, k1, rfl, k2, k3, k4⟩ := sl_sound inv3 (id := 0) rfl hv
  obtain ⟨b', st', cp', c, el, fr, f1, f2, f3, f4, f5, f6, f7, f8, f9, f10, f11⟩ := row_elem inv3 (id := 0) rfl
  rw [k1] at f1; cases f1
  obtain rfl : st = 0 := by omega
  have hbB := (inv3.dom _ _ k1).2.1
  have hbw := (inv3.dom _ _ k1).2.2
  simp only [Ko.block] at hbB hbw
  have hlt : id < h.length := (List.getElem?_eq_some_iff.1 hi).1
  have hkle : Kle κ (upd κ id (.row (cur + 1) b zs.length cp sz)) := kle_upd (fun k0 h0 => by rw [g1] at h0; cases h0; exact .later _ _ _ _ _ _ _ _ _ (by omega))
  have hgrow : w.heap.size ≤ w3.heap.size := st3.below.size
  have hsame : ∀ b, b < w.heap.size → w3.heap[b]? = w.heap[b]? := fun b hb => st3.below.block b hb
  refine ⟨upd κ id (.row (cur + 1) b zs.length cp sz), ⟨fun i o ho => ?_, fun i j k k' hk hk' hbl => ?_, fun i k hk => ?_, inv3.sb, by have := inv.bw; omega⟩, ⟨st3.below.mono inv.bw, st3.sle, hkle, fun b o h => ?_⟩, ?_⟩
  · by_cases e : i = id
    · subst e
      rw [List.getElem?_set_self hlt] at ho
      cases ho
      refine ⟨b, zs.length, cp, c, el, fr, upd_same _ _ _, f2, f3, f4, f5, by simp, by simp; omega, fun e he => ?_, fun j e hj he => ?_, fun o _ => f11 rfl o, f11⟩
      · rcases List.mem_append.1 he with he | he
        · exact hzs e he
        · exact f8 e he
      · rw [List.getElem?_append_right hj] at he
        have := f9 (j - zs.length) e (by omega) he
        rw [Nat.sub_zero] at this
        exact RL_scal (hys e (List.mem_of_getElem? he)) this
    · rw [List.getElem?_set_ne (Ne.symm e)] at ho
      refine OI.mono st3.sle hkle st3.new (fun k hk => ?_) (inv.obs i o ho)
      have := (inv.dom _ _ hk).2.2
      exact ⟨by rw [upd_ne _ _ _ _ e]; exact hk, hsame _ this, this⟩
  · by_cases e : i = id
    · by_cases e' : j = id
      · rw [e, e']
      · subst e
        rw [upd_same] at hk
        rw [upd_ne _ _ _ _ e'] at hk'
        cases hk
        have := (inv.dom _ _ hk').2.2
        change b = Ko.block _ at hbl
        omega
    · by_cases e' : j = id
      · subst e'
        rw [upd_same] at hk'
        rw [upd_ne _ _ _ _ e] at hk
        cases hk'
        have := (inv.dom _ _ hk).2.2
        change Ko.block _ = b at hbl
        omega
      · rw [upd_ne _ _ _ _ e] at hk
        rw [upd_ne _ _ _ _ e'] at hk'
        exact inv.dis _ _ _ _ hk hk' hbl
  · rw [List.length_set]
    by_cases e : i = id
    · subst e
      rw [upd_same] at hk
      cases hk
      refine ⟨hlt, ?_, hbw⟩
      have := inv.bw
      simp only [Ko.block]
      omega
    · rw [upd_ne _ _ _ _ e] at hk
      have := inv.dom _ _ hk
      exact ⟨this.1, this.2.1, by omega⟩
  · rcases st3.new b o h with h | h
    · exact .inl h
    · exact .inr (by have := inv.bw; omega)
  · simp only [RV]
    refine ⟨cur + 1, b, zs.length, cp, sz, a, cp, upd_same _ _ _, Nat.le_refl _, by simp, by omega, fun _ => ⟨Nat.le_refl _, by omega, by omega, ?_⟩⟩
    rcases k4 with k4 | rfl
    · omega
    · right; simp
end
end Go.Ev
