/- Running code by rewriting. No conditions. -/
import Derived.Test.YtaeklgflchhmfaaGreatDoorEwF
set_option maxHeartbeats 16000000
set_option maxRecDepth 100000
set_option linter.unusedVariables false
set_option linter.unusedSimpArgs false
set_option linter.unusedSectionVars false
namespace Go.Ev
section
variable {call : CallF} {rnd : Option Nat} {Q : Ex → St → Prop} {s : St}
theorem seqQ_n {q : St → Prop} {Q : Ex → St → Prop} : seqQ q Q .normal = q := rfl
theorem seqQ_r {q : St → Prop} {Q : Ex → St → Prop} : seqQ q Q .ret = Q .ret := rfl
theorem seqQ_e {q : St → Prop} {Q : Ex → St → Prop} {i : Nat} : seqQ q Q (.exit i) = Q (.exit i) := rfl
theorem blockQ_n {id : Nat} {Q : Ex → St → Prop} : blockQ id Q .normal = Q .normal := rfl
theorem blockQ_r {id : Nat} {Q : Ex → St → Prop} : blockQ id Q .ret = Q .ret := rfl
theorem blockQ_e {id : Nat} {Q : Ex → St → Prop} {i : Nat} : blockQ id Q (.exit i) = Q (if i = id then .normal else .exit i) := rfl
def OnV (x : VH) (q : V → Heap → Prop) : Prop :=
 match x with
 | some (v, h) => q v h
 | none => False
theorem OnV_some (v : V) (h : Heap) (q : V → Heap → Prop) : OnV (some (v, h)) q = q v h := rfl
def IfB (b : Bool) (p q : Prop) : Prop := (b = true → p) ∧ (b = false → q)
theorem kZI (p q : Prop) : IfB true p q = p := by simp [IfB]
theorem jZp (p q : Prop) : IfB false p q = q := by simp [IfB]
def OnB (x : V) (k : Bool → Prop) : Prop :=
 match x with
 | .bool b => k b
 | _ => False
theorem OnB_bool (b : Bool) (k : Bool → Prop) : OnB (.bool b) k = k b := rfl
def OnG (x : V) (w : Bool) (p q : Prop) : Prop :=
 match x with
 | .bool b => IfB (b == w) p q
 | .tup [] => q
 | _ => False
theorem OnG_bool (b w : Bool) (p q : Prop) : OnG (.bool b) w p q = IfB (b == w) p q := rfl
theorem OnG_non (w : Bool) (p q : Prop) : OnG V.non w p q = q := rfl
theorem rSkip : WC call rnd .skip s Q = Q .normal s := propext ⟨fun ⟨e, s', h, q⟩ => by simp [evCodeW] at h; obtain ⟨rfl, rfl⟩ := h; exact q, WC_skip⟩
theorem rRet : WC call rnd .ret s Q = Q .ret s := propext ⟨fun ⟨e, s', h, q⟩ => by simp [evCodeW] at h; obtain ⟨rfl, rfl⟩ := h; exact q, WC_ret⟩
theorem rExit {id : Nat} : WC call rnd (.exit id) s Q = Q (.exit id) s := propext ⟨fun ⟨e, s', h, q⟩ => by simp [evCodeW] at h; obtain ⟨rfl, rfl⟩ := h; exact q, WC_exit⟩
theorem rRegion {ops : List Cp} : WC call rnd (.region ops) s Q = WO call ops s (Q .normal) :=
 propext ⟨fun ⟨e, s', h, q⟩ => by
  simp only [evCodeW, Option.map_eq_some_iff, Prod.mk.injEq] at h
  obtain ⟨s1, h, rfl, rfl⟩ := h
  exact ⟨_, h, q⟩, WC_region⟩
theorem rSeq {a b : Cc} : WC call rnd (.seq a b) s Q = WC call rnd a s (seqQ (fun s => WC call rnd b s Q) Q) := by
 refine propext ⟨?_, WC_seq⟩
 rintro ⟨e, s', h, q⟩
 simp only [evCodeW] at h
 split at h
 ·rename_i s1 h1
  exact ⟨_, _, h1, e, s', h, q⟩
 ·rename_i hn
  refine ⟨e, s', h, ?_⟩
  cases e with
  | normal => exact absurd h (hn _)
  | exit i => exact q
  | ret => exact q
theorem rCond {c : Od} {a b : Cc} : WC call rnd (.cond c a b) s Q = OnB (c.ev s.env) fun t => IfB t (WC call rnd a s Q) (WC call rnd b s Q) := by
 apply propext
 constructor
 ·rintro ⟨e, s', h, q⟩
  simp only [evCodeW] at h
  split at h
  ·rename_i t ht
   rw [ht]
   cases t with
   | true =>
    simp only [OnB, IfB]
    exact ⟨fun _ => ⟨e, s', by simpa using h, q⟩, fun h => (by cases h)⟩
   | false =>
    simp only [OnB, IfB]
    exact ⟨fun h => (by cases h), fun _ => ⟨e, s', by simpa using h, q⟩⟩
  ·cases h
 ·intro h
  unfold OnB at h
  split at h
  ·rename_i t ht
   exact WC_cond ht h.1 h.2
  ·exact h.elim
theorem rBlock {id : Nat} {c : Cc} : WC call rnd (.block id c) s Q = WC call rnd c s (blockQ id Q) := by
 refine propext ⟨?_, WC_block⟩
 rintro ⟨e, s', h, q⟩
 simp only [evCodeW] at h
 split at h
 ·rename_i i s1 h1
  simp only [Option.some.injEq, Prod.mk.injEq] at h
  obtain ⟨rfl, rfl⟩ := h
  exact ⟨_, _, h1, q⟩
 ·rename_i hn
  refine ⟨e, s', h, ?_⟩
  cases e with
  | normal => exact q
  | exit i => exact absurd h (hn _ _)
  | ret => exact q
theorem rNil {q : St → Prop} : WO call [] s q = q s := propext ⟨fun ⟨s', h, hq⟩ => by simp [evOps] at h; subst h; exact hq, WO_nil⟩
def evOpC (call : CallF) (env : List V) (h : Heap) (op : Cop) : VH :=
 match op with
 | .call f args => call (f.ev env) (evs env args) h
 | op => evOp env h op
theorem cp_evOpC {d : Option Nat} {op : Cop} : evCp call ⟨d, op, none⟩ s = (match evOpC call s.env s.heap op with
   | some (v, h) => some { s with env := putV s.env d v, heap := h }
   | none => none) := by
 unfold evCp
 simp only [wanted]
 cases op <;> first | (simp only [fS_eq]; done) | (simp only [fS_eq]; rfl) | rfl
theorem rOp {q : St → Prop} {d : Option Nat} {op : Cop} {r : List Cp} : WO call (⟨d, op, none⟩ :: r) s q =
  OnV (evOpC call s.env s.heap op) fun v h' => WO call r { s with env := putV s.env d v, heap := h' } q := by
 apply propext
 constructor
 ·rintro ⟨s', h, hq⟩
  simp only [evOps, cp_evOpC] at h
  cases he : evOpC call s.env s.heap op with
  | none => rw [he] at h; simp at h
  | some p =>
   rw [he] at h
   exact ⟨s', h, hq⟩
 ·intro h
  cases he : evOpC call s.env s.heap op with
  | none => rw [he] at h; exact h.elim
  | some p =>
   rw [he] at h
   obtain ⟨s', h1, h2⟩ := h
   exact ⟨s', by simp only [evOps, cp_evOpC, he]; exact h1, h2⟩
theorem rGuard {q : St → Prop} {d : Option Nat} {op : Cop} {j : Nat} {w : Bool} {r : List Cp} : WO call (⟨d, op, some (j, w)⟩ :: r) s q =
  OnG (eget s.env j) w (WO call (⟨d, op, none⟩ :: r) s q) (WO call r { s with env := putV s.env d V.non } q) := by
 have hyes : eget s.env j = .bool w → evCp call ⟨d, op, some (j, w)⟩ s = evCp call ⟨d, op, none⟩ s := by
  intro hw
  unfold evCp
  simp [wanted, hw]
 have hno : (eget s.env j = .bool (!w) ∨ eget s.env j = V.non) → evCp call ⟨d, op, some (j, w)⟩ s = some { s with env := putV s.env d V.non } := by
  intro hw
  unfold evCp
  rcases hw with hw | hw <;> cases w <;> simp [wanted, hw, V.non]
 unfold OnG
 split
 ·rename_i t ht
  by_cases hw : t = w
  ·subst hw
   simp only [beq_self_eq_true, kZI]
   unfold WO
   simp only [evOps, hyes ht]
  ·have hb : (t == w) = false := by simpa using hw
   rw [hb, jZp]
   unfold WO
   have : eget s.env j = .bool (!w) := by rw [ht]; cases t <;> cases w <;> simp_all
   simp only [evOps, hno (.inl this)]
 ·rename_i ht
  unfold WO
  simp only [evOps, hno (.inr ht)]
 ·rename_i h1 h2
  apply propext
  refine ⟨fun ⟨s', h, _⟩ => ?_, False.elim⟩
  simp only [evOps] at h
  have : evCp call ⟨d, op, some (j, w)⟩ s = none := by
   unfold evCp
   have : wanted s.env (some (j, w)) = none := by
    simp only [wanted]
   simp only [this]
  rw [this] at h
  cases h
def order (n : Nat) (af : List (List Nat)) (fl : List Nat) : Nat → List Bool → Option (List Nat)
 | 0, listed => if readyL n af listed = [] then some [] else none
 | f + 1, listed =>
  match readyL n af listed with
  | [] => some []
  | [i] => (order n af fl f (listed.set i true)).map (i :: ·)
  | i :: is =>
   match (i :: is).find? fl.contains with
   | some j => (order n af fl f (listed.set j true)).map (j :: ·)
   | none => none
theorem any_order {ops : List Cp} {af : List (List Nat)} {fl : List Nat} : ∀ (f : Nat) (listed : List Bool) (l : List Nat) (s : St), order ops.length af fl f listed = some l →
  evAny call ops af fl f listed s = evOps call (l.filterMap (ops[·]?)) s
 | 0, listed, l, s, h => by
  simp only [order] at h
  obtain ⟨h1, rfl⟩ := qZR h
  simp [evAny, h1, evOps]
 | f + 1, listed, l, s, h => by
  rw [wZs]
  simp only [order] at h
  have one : ∀ j l', j ∈ readyL ops.length af listed → order ops.length af fl f (listed.set j true) = some l' → evRun call ops af fl f listed s j = evOps call ((j :: l').filterMap (ops[·]?)) s := by
   intro j l' hj hl
   have hjs : j < ops.length := by
    unfold readyL at hj
    rw [List.mem_filter, List.mem_range] at hj
    exact hj.1
   unfold evRun
   rw [List.filterMap_cons]
   simp only [List.getElem?_eq_getElem hjs]
   simp only [evOps]
   cases h1 : evCp call ops[j] s with
   | some s1 => exact any_order f _ l' s1 hl
   | none => rfl
  split at h
  ·rename_i hr
   cases h
   rw [hr]
   rfl
  ·rename_i i hr
   simp only [Option.map_eq_some_iff] at h
   obtain ⟨l', hl, rfl⟩ := h
   have := one i l' (by rw [hr]; simp) hl
   rw [hr]
   simp only
   split
   ·rename_i j hj
    have hji : j = i := by
     have := List.mem_of_find?_eq_some hj
     simpa using this
    subst hji
    exact this
   ·rw [this]
    split
    ·rename_i r hr'; simp; exact hr'.symm
    ·rename_i hr'; exact hr'.symm
  ·rename_i i is hne hr
   split at h
   ·rename_i j hj
    simp only [Option.map_eq_some_iff] at h
    obtain ⟨l', hl, rfl⟩ := h
    have hjm : j ∈ i :: is := List.mem_of_find?_eq_some hj
    have := one j l' (by rw [hr]; exact hjm) hl
    rw [hr]
    simp only [hj]
    exact this
   ·cases h
def orders (n : Nat) (af : List (List Nat)) (fl : List Nat) : Nat → List Bool → Option (List (List Nat))
 | 0, listed => if readyL n af listed = [] then some [[]] else none
 | f + 1, listed =>
  match readyL n af listed with
  | [] => some [[]]
  | i :: is =>
   match (i :: is).find? fl.contains with
   | some j => (orders n af fl f (listed.set j true)).map fun ls => ls.map (j :: ·)
   | none => ((i :: is).mapM fun j => (orders n af fl f (listed.set j true)).map fun ls => ls.map (j :: ·)).map List.flatten
theorem xZi {n : Nat} {af : List (List Nat)} {fl : List Nat} : ∀ (f : Nat) (listed : List Bool) (ls : List (List Nat)), orders n af fl f listed = some ls → ls ≠ []
 | 0, listed, ls, h => by
  simp only [orders] at h
  obtain ⟨_, rfl⟩ := qZR h
  simp
 | f + 1, listed, ls, h => by
  simp only [orders] at h
  split at h
  ·cases h; simp
  ·rename_i i is hr
   split at h
   ·simp only [Option.map_eq_some_iff] at h
    obtain ⟨l', h1, rfl⟩ := h
    simpa using xZi f _ _ h1
   ·simp only [Option.map_eq_some_iff, List.mapM_cons, Option.bind_eq_bind, Option.bind_eq_some_iff, Option.pure_def, Option.some.injEq] at h
    obtain ⟨_, ⟨a, ⟨b, h1, rfl⟩, c, h2, rfl⟩, rfl⟩ := h
    have := xZi f _ _ h1
    simp [this]
theorem xZK {ops : List Cp} {af : List (List Nat)} {fl : List Nat} {r : St} : ∀ (f : Nat) (listed : List Bool) (ls : List (List Nat)) (s : St), orders ops.length af fl f listed = some ls →
  (∀ l ∈ ls, evOps call (l.filterMap (ops[·]?)) s = some r) → evAny call ops af fl f listed s = some r
 | 0, listed, ls, s, h, hh => by
  simp only [orders] at h
  obtain ⟨h1, rfl⟩ := qZR h
  simpa [evAny, h1, evOps] using hh [] (by simp)
 | f + 1, listed, ls, s, h, hh => by
  rw [wZs]
  simp only [orders] at h
  have one : ∀ j ls', j ∈ readyL ops.length af listed → orders ops.length af fl f (listed.set j true) = some ls' → (∀ l ∈ ls', evOps call ((j :: l).filterMap (ops[·]?)) s = some r) → evRun call ops af fl f listed s j = some r := by
   intro j ls' hj hl hall
   have hjs : j < ops.length := by
    unfold readyL at hj
    rw [List.mem_filter, List.mem_range] at hj
    exact hj.1
   have hcons : ∀ l, (j :: l).filterMap (ops[·]?) = ops[j] :: l.filterMap (ops[·]?) := by
    intro l
    rw [List.filterMap_cons]
    simp only [List.getElem?_eq_getElem hjs]
   unfold evRun
   simp only [List.getElem?_eq_getElem hjs]
   obtain ⟨l0, l1, he⟩ := List.exists_cons_of_ne_nil (xZi f _ _ hl)
   have h0 := hall l0 (by rw [he]; simp)
   rw [hcons] at h0
   simp only [evOps] at h0
   cases h1 : evCp call ops[j] s with
   | none => rw [h1] at h0; cases h0
   | some s1 =>
    refine xZK f _ ls' s1 hl (fun l hm => ?_)
    have := hall l hm
    rw [hcons] at this
    simpa only [evOps, h1] using this
  split at h
  ·rename_i hr
   cases h
   rw [hr]
   simpa [evOps] using hh [] (by simp)
  ·rename_i i is hr
   rw [hr]
   split at h
   ·rename_i j hj
    simp only [Option.map_eq_some_iff] at h
    obtain ⟨ls', h1, rfl⟩ := h
    have hjm : j ∈ i :: is := List.mem_of_find?_eq_some hj
    simp only [hj]
    exact one j ls' (by rw [hr]; exact hjm) h1 (fun l hm => hh _ (by simp only [List.mem_map]; exact ⟨l, hm, rfl⟩))
   ·rename_i hj
    simp only [hj]
    simp only [Option.map_eq_some_iff] at h
    obtain ⟨lss, h1, rfl⟩ := h
    obtain ⟨hl, hg⟩ := vZK _ _ _ h1
    have all : ∀ j ∈ i :: is, evRun call ops af fl f listed s j = some r := by
     intro j hjm
     obtain ⟨p, hp⟩ := List.getElem?_of_mem hjm
     have hpl : p < lss.length := by rw [hl]; exact (List.getElem?_eq_some_iff.1 hp).1
     have h2 := hg p j lss[p] hp (by simp [hpl])
     simp only [Option.map_eq_some_iff] at h2
     obtain ⟨ls', h3, h4⟩ := h2
     refine one j ls' (by rw [hr]; exact hjm) h3 (fun l hm => hh _ ?_)
     rw [List.mem_flatten]
     exact ⟨lss[p], by simp [hpl], by rw [← h4]; simp only [List.mem_map]; exact ⟨l, hm, rfl⟩⟩
    rw [all i (by simp)]
    have : (is.all fun j => beqO (evRun call ops af fl f listed s j) r) = true := by
     rw [List.all_eq_true]
     intro j hj
     rw [all j (by simp [hj])]
     exact xZq r
    simp [this]
theorem rDraw {ops : List Cp} {af : List (List Nat)} {fl : List Nat} {l : List Nat} (h : order ops.length af fl ops.length (List.replicate ops.length false) = some l) {ops' : List Cp} (h2 : l.filterMap (ops[·]?) = ops') :
  WC call none (.draw ops af fl) s Q = WO call ops' s (Q .normal) := by
 subst h2
 have he := any_order (call := call) (ops := ops) (af := af) (fl := fl) ops.length _ l s h
 apply propext
 constructor
 ·rintro ⟨e, s', h1, hq⟩
  simp only [evCodeW, Option.isNone_none, if_true, he, Option.map_eq_some_iff, Prod.mk.injEq] at h1
  obtain ⟨s1, h1, rfl, rfl⟩ := h1
  exact ⟨_, h1, hq⟩
 ·rintro ⟨s', h1, hq⟩
  exact ⟨.normal, s', by simp [evCodeW, he, h1], hq⟩
end
theorem eo_call {call : CallF} {env : List V} {h : Heap} : ∀ f args, evOpC call env h (.call f args) = call (f.ev env) (evs env args) h := by intros; rfl
theorem eo_mov {call : CallF} {env : List V} {h : Heap} : ∀ x, evOpC call env h (.mov x) = some (x.ev env, h) := by intros; rfl
theorem eo_pick {call : CallF} {env : List V} {h : Heap} : ∀ c a b, evOpC call env h (.pick c a b) = evPick env h c a b := by intros; rfl
theorem eo_alloc {call : CallF} {env : List V} {h : Heap} : ∀ zero, evOpC call env h (.alloc zero) = newOb h (.ptr h.length 0) (.cells zero) := by intros; rfl
theorem eo_box {call : CallF} {env : List V} {h : Heap} : ∀ x, evOpC call env h (.box x) = evBox h (x.ev env).cells := by intros; rfl
theorem eo_build {call : CallF} {env : List V} {h : Heap} : ∀ zero parts, evOpC call env h (.build zero parts) = evBuild h zero (parts.map fun p => (p.1, p.2.1, p.2.2.ev env)) := by intros; rfl
theorem kZ0 {call : CallF} {env : List V} {h : Heap} : ∀ zero len sz parts, evOpC call env h (.bslice zero len sz parts) = evBslice h zero len sz (parts.map fun p => (p.1, p.2.ev env)) := by intros; rfl
theorem eo_load {call : CallF} {env : List V} {h : Heap} : ∀ ag x, evOpC call env h (.load ag x) = okCells h ag (cellsAt h (x.ev env)) := by intros; rfl
theorem eo_store {call : CallF} {env : List V} {h : Heap} : ∀ n a x, evOpC call env h (.store n a x) = evStoreV h n (a.ev env) (x.ev env) := by intros; rfl
theorem eo_bin {call : CallF} {env : List V} {h : Heap} : ∀ op x y, evOpC call env h (.bin op x y) = okV h (binV op (x.ev env) (y.ev env)) := by intros; rfl
theorem eo_eqc {call : CallF} {env : List V} {h : Heap} : ∀ neg ps x y, evOpC call env h (.eqc neg ps x y) = evEqc h neg ps (x.ev env) (y.ev env) := by intros; rfl
theorem eo_eqn {call : CallF} {env : List V} {h : Heap} : ∀ k neg x y, evOpC call env h (.eqn k neg x y) = evEqn h k neg (x.ev env) (y.ev env) := by intros; rfl
theorem eo_un {call : CallF} {env : List V} {h : Heap} : ∀ op x, evOpC call env h (.un op x) = okV h (unV op (x.ev env)) := by intros; rfl
theorem eo_conv {call : CallF} {env : List V} {h : Heap} : ∀ d x, evOpC call env h (.conv d x) = evConv h d (x.ev env) := by intros; rfl
theorem eo_field {call : CallF} {env : List V} {h : Heap} : ∀ off ag x, evOpC call env h (.field off ag x) = evField h off ag (x.ev env) := by intros; rfl
theorem eo_faddr {call : CallF} {env : List V} {h : Heap} : ∀ off x, evOpC call env h (.faddr off x) = okV h (faddrV off (x.ev env)) := by intros; rfl
theorem eo_iaddr {call : CallF} {env : List V} {h : Heap} : ∀ sz x i, evOpC call env h (.iaddr sz x i) = okV h (iaddrV h sz (x.ev env) (i.ev env)) := by intros; rfl
theorem kZ1 {call : CallF} {env : List V} {h : Heap} : ∀ len sz x i, evOpC call env h (.iaddrA len sz x i) = evIaddrA h len sz (x.ev env) (i.ev env) := by intros; rfl
theorem eo_idxS {call : CallF} {env : List V} {h : Heap} : ∀ x i, evOpC call env h (.idxS x i) = evIdxS h (x.ev env) (i.ev env) := by intros; rfl
theorem eo_idxA {call : CallF} {env : List V} {h : Heap} : ∀ len sz ag x i, evOpC call env h (.idxA len sz ag x i) = evIdxA h len sz ag (x.ev env) (i.ev env) := by intros; rfl
theorem eo_slice {call : CallF} {env : List V} {h : Heap} : ∀ k sz x lo hi, evOpC call env h (.slice k sz x lo hi) = okV h (sliceV k h sz (x.ev env) (lo.map (·.ev env)) (hi.map (·.ev env))) := by intros; rfl
theorem eo_ext {call : CallF} {env : List V} {h : Heap} : ∀ x i, evOpC call env h (.ext x i) = evExt h (x.ev env) i := by intros; rfl
theorem eo_mki {call : CallF} {env : List V} {h : Heap} : ∀ t x, evOpC call env h (.mki t x) = some (.ifc t (x.ev env), h) := by intros; rfl
theorem eo_mkf {call : CallF} {env : List V} {h : Heap} : ∀ f first caps, evOpC call env h (.mkf f first caps) = fS (evs env first) fun a => fS (evs env caps) fun b => some (.fn f a b, h) := by intros; rfl
theorem eo_rngs {call : CallF} {env : List V} {h : Heap} : ∀ x, evOpC call env h (.rngs x) = evRngs h (x.ev env) := fun _ => rfl
theorem eo_nxt {call : CallF} {env : List V} {h : Heap} : ∀ x, evOpC call env h (.nxt x) = evNxt h (x.ev env) := fun _ => rfl
theorem eo_mkm {call : CallF} {env : List V} {h : Heap} : evOpC call env h .mkm = newOb h (.map h.length) (.map [] 0) := rfl
theorem eo_mks {call : CallF} {env : List V} {h : Heap} : ∀ zero sz bytes len cap, evOpC call env h (.mks zero sz bytes len cap) = evMks h zero sz bytes (len.ev env) (cap.ev env) := by intros; rfl
theorem eo_look {call : CallF} {env : List V} {h : Heap} : ∀ ks ok zero m k, evOpC call env h (.look ks ok zero m k) = evLook h ks ok zero (m.ev env) (k.ev env) := by intros; rfl
theorem eo_mapup {call : CallF} {env : List V} {h : Heap} : ∀ ks m k x, evOpC call env h (.mapup ks m k x) = evMapup h ks (m.ev env) (k.ev env) (x.ev env) := by intros; rfl
theorem eo_mapent {call : CallF} {env : List V} {h : Heap} : ∀ ks zero m k, evOpC call env h (.mapent ks zero m k) = evMapent h ks zero (m.ev env) (k.ev env) := by intros; rfl
theorem eo_entst {call : CallF} {env : List V} {h : Heap} : ∀ m s x, evOpC call env h (.entst m s x) = evEntst h (m.ev env) (s.ev env) (x.ev env) := by intros; rfl
theorem eo_len {call : CallF} {env : List V} {h : Heap} : ∀ k x, evOpC call env h (.len k x) = evLen h k (x.ev env) := by intros; rfl
theorem eo_mx {call : CallF} {env : List V} {h : Heap} : ∀ xs, evOpC call env h (.mx xs) = okV h (foldInt (fun x y => if y > x then y else x) (evs env xs)) := by intros; rfl
theorem eo_mn {call : CallF} {env : List V} {h : Heap} : ∀ xs, evOpC call env h (.mn xs) = okV h (foldInt (fun x y => if y < x then y else x) (evs env xs)) := by intros; rfl
theorem eo_app {call : CallF} {env : List V} {h : Heap} : ∀ sz bytes s x, evOpC call env h (.app sz bytes s x) = evApp h sz bytes (s.ev env) (x.ev env) := by intros; rfl
theorem eo_copy {call : CallF} {env : List V} {h : Heap} : ∀ sz d x, evOpC call env h (.copy sz d x) = evCopy h sz (d.ev env) (x.ev env) := by intros; rfl
theorem eo_del {call : CallF} {env : List V} {h : Heap} : ∀ ks m k, evOpC call env h (.del ks m k) = evDel h ks (m.ev env) (k.ev env) := by intros; rfl
theorem kZ3 {call : CallF} {env : List V} {h : Heap} : ∀ x lo hi mx, evOpC call env h (.slice3 x lo hi mx) = evSl3 h (x.ev env) (lo.map (·.ev env)) (hi.ev env) (mx.ev env) := by intros; rfl
theorem eo_clr {call : CallF} {env : List V} {h : Heap} : ∀ sz zero x, evOpC call env h (.clr sz zero x) = evClr h sz zero (x.ev env) := by intros; rfl
theorem eo_resv {call : CallF} {env : List V} {h : Heap} : ∀ ds, evOpC call env h (.resv ds) = some (V.non, h ++ ds.map Ob.resv) := fun ds => by show evResv h ds = _; simp [evResv]
theorem eo_allocD {call : CallF} {env : List V} {h : Heap} : ∀ d z, evOpC call env h (.allocD d z) = evAllocD h d z := by intros; rfl
theorem eo_inil {call : CallF} {env : List V} {h : Heap} : ∀ neg x, evOpC call env h (.inil neg x) = evInil h neg (x.ev env) := by intros; rfl
theorem eo_prim {call : CallF} {env : List V} {h : Heap} : ∀ p xs, evOpC call env h (.prim p xs) = evPrim h p (evs env xs) := by intros; rfl
theorem eo_cln {call : CallF} {env : List V} {h : Heap} : ∀ sz bytes x, evOpC call env h (.cln sz bytes x) = evCln h sz bytes (x.ev env) := by intros; rfl
theorem eo_ins {call : CallF} {env : List V} {h : Heap} : ∀ sz bytes s i x, evOpC call env h (.ins sz bytes s i x) = evIns h sz bytes (s.ev env) (i.ev env) (x.ev env) := by intros; rfl
theorem eo_atadd {call : CallF} {env : List V} {h : Heap} : ∀ k x y, evOpC call env h (.atadd k x y) = evAtadd h k (x.ev env) (y.ev env) := by intros; rfl
theorem eo_onceIn {call : CallF} {env : List V} {h : Heap} : ∀ x f, evOpC call env h (.onceIn x f) = evOnceIn h (x.ev env) (f.ev env) := by intros; rfl
theorem xZW {call : CallF} {env : List V} {h : Heap} : ∀ x, evOpC call env h (.onceOut x) = evOnceOut h (x.ev env) := by intros; rfl
theorem eo_atst {call : CallF} {env : List V} {h : Heap} : ∀ k x y, evOpC call env h (.atst k x y) = evAtst h k (x.ev env) (y.ev env) := by intros; rfl
theorem eo_atld {call : CallF} {env : List V} {h : Heap} : ∀ k x, evOpC call env h (.atld k x) = evAtld h k (x.ev env) := by intros; rfl
theorem kZ2 {call : CallF} {env : List V} {h : Heap} : ∀ x, evOpC call env h (.nilchk x) = evNilchk h (x.ev env) := by intros; rfl
theorem body_start {call : CallF} {cf : Cf} {args : List V} {h : Heap} {r : V × Heap} (hn : args.length ≤ cf.ntmps)
  (hw : ∀ env : List V, env.length = cf.ntmps → (∀ i, i < args.length → eget env i = eget args i) → WC call none cf.body { env := env, marks := [], heap := h }
   (fun e s => (e = .normal ∨ e = .ret) ∧ ∃ h1 vs, takeMarks s.heap s.marks = some h1 ∧ evRes s.env h1 cf.results = some vs ∧ r = (pack vs, h1))) : evBodyW call cf args h = some r := by
 refine body_of hn (hw _ (by simp; omega) fun i hi => ?_)
 simp [eget, List.getD_eq_getElem?_getD, List.getElem?_append_left hi]
end Go.Ev
