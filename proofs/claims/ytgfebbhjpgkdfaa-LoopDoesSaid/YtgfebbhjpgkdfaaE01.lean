/- The evaluator, part 1: Operations that hang on no memory: the machine does what the evaluator says. Operations that hang on no memory, one by one. The operations that hang on no memory, together. Reading and writing memory, as the evaluator says. New objects. Structs and slices that are built; make. Building structs and slices, make, append, copy. No conditions. -/
import Derived.Test.YtgfebbhjpgkdfaaE00
import Derived.Laws.Sem
import Derived.Laws.World
import Derived.Laws.Strings
import Derived.Laws.Bits
import GoSem.Dispatch
import Derived.Laws.StructEq
import Derived.Laws.Cells
import Derived.Laws.Append
namespace Go.Ev
open Go.RowKit
set_option linter.unusedVariables false
set_option linter.unusedSectionVars false
set_option linter.unusedSimpArgs false

section
variable {P : Program} {S : Cells} {w : World} {κ : Kap}

theorem RL_length : ∀ {xs : List V} {vs : List Value}, RL S w κ xs vs → xs.length = vs.length
  | [], [], _ => rfl
  | [], _ :: _, h => by simp [RL] at h
  | _ :: _, [], h => by simp [RL] at h
  | x :: xs, v :: vs, h => by simp only [RL] at h; simp [RL_length h.2]
theorem RL_get : ∀ {xs : List V} {vs : List Value}, RL S w κ xs vs → ∀ {i : Nat} {x : V}, xs[i]? = some x → ∃ v, vs[i]? = some v ∧ RV S w κ x v
  | [], [], _, i, x, h => by simp at h
  | [], _ :: _, h, _, _, _ => by simp [RL] at h
  | _ :: _, [], h, _, _, _ => by simp [RL] at h
  | y :: xs, v :: vs, h, i, x, hx => by
    simp only [RL] at h
    cases i with
    | zero => simp at hx; subst hx; exact ⟨v, rfl, h.1⟩
    | succ i => simp at hx; simpa using RL_get h.2 hx
theorem RL_append : ∀ {xs : List V} {vs : List Value} {ys : List V} {us : List Value}, RL S w κ xs vs → RL S w κ ys us → RL S w κ (xs ++ ys) (vs ++ us)
  | [], [], _, _, _, h => h
  | [], _ :: _, _, _, h, _ => by simp [RL] at h
  | _ :: _, [], _, _, h, _ => by simp [RL] at h
  | x :: xs, v :: vs, ys, us, h, k => by
    simp only [RL] at h
    exact ⟨h.1, RL_append h.2 k⟩
theorem RL_take : ∀ (n : Nat) {xs : List V} {vs : List Value}, RL S w κ xs vs → RL S w κ (xs.take n) (vs.take n)
  | 0, xs, vs, h => by simp [RL]
  | n + 1, [], [], _ => by simp [RL]
  | n + 1, [], _ :: _, h => by simp [RL] at h
  | n + 1, _ :: _, [], h => by simp [RL] at h
  | n + 1, x :: xs, v :: vs, h => by
    simp only [RL] at h
    simp only [List.take_succ_cons, RL]
    exact ⟨h.1, RL_take n h.2⟩
theorem RL_drop : ∀ (n : Nat) {xs : List V} {vs : List Value}, RL S w κ xs vs → RL S w κ (xs.drop n) (vs.drop n)
  | 0, xs, vs, h => by simpa using h
  | n + 1, [], [], _ => by simp [RL]
  | n + 1, [], _ :: _, h => by simp [RL] at h
  | n + 1, _ :: _, [], h => by simp [RL] at h
  | n + 1, x :: xs, v :: vs, h => by
    simp only [RL] at h
    simpa using RL_drop n h.2
theorem RL_set : ∀ {xs : List V} {vs : List Value} (i : Nat) {x : V} {v : Value}, RL S w κ xs vs → RV S w κ x v → RL S w κ (xs.set i x) (vs.set i v)
  | [], [], _, _, _, _, _ => by simp [RL]
  | [], _ :: _, _, _, _, h, _ => by simp [RL] at h
  | _ :: _, [], _, _, _, h, _ => by simp [RL] at h
  | y :: xs, u :: vs, i, x, v, h, k => by
    simp only [RL] at h
    cases i with
    | zero => simp only [List.set_cons_zero, RL]; exact ⟨k, h.2⟩
    | succ i => simp only [List.set_cons_succ, RL]; exact ⟨h.1, RL_set i h.2 k⟩
theorem RL_replicate {x : V} {v : Value} (h : RV S w κ x v) : ∀ n, RL S w κ (List.replicate n x) (List.replicate n v)
  | 0 => by simp [RL]
  | n + 1 => by simp only [List.replicate_succ, RL]; exact ⟨h, RL_replicate h n⟩
theorem RL_one {x : V} {v : Value} : RL S w κ [x] [v] ↔ RV S w κ x v := by simp [RL]

theorem RV_non : RV S w κ V.non undef := by simp [RV, RL, undef]

theorem ofCell_sound {v : Value} {x : V} (h : ofCell v = some x) : RV S w κ x v := by
  unfold ofCell at h
  split at h
  case h_9 =>
    split at h
    · rename_i f a c hh
      cases h
      obtain ⟨h1, h2⟩ := hh
      obtain rfl : a = #[] := Array.size_eq_zero_iff.1 h1
      obtain rfl : c = #[] := Array.size_eq_zero_iff.1 h2
      simp only [RV]
      exact ⟨_, _, rfl, by simp [RL], by simp [RL]⟩
    · cases h
  all_goals (cases h <;> simp [RV, RL])

theorem ofCellList_sound : ∀ {vs : List Value} {xs : List V}, ofCellList vs = some xs → RL S w κ xs vs
  | [], xs, h => by simp [ofCellList] at h; subst h; simp [RL]
  | v :: vs, xs, h => by
    unfold ofCellList at h
    split at h
    · rename_i x xs' h1 h2
      cases h
      exact ⟨ofCell_sound h1, ofCellList_sound h2⟩
    · cases h

theorem ofConst_sound {v : Value} {x : V} (h : ofConst v = some x) : RV S w κ x v := by
  unfold ofConst at h
  split at h
  · rename_i cs
    simp only [Option.map_eq_some_iff] at h
    obtain ⟨l, hl, rfl⟩ := h
    simp only [RV]
    exact ⟨_, rfl, ofCellList_sound hl⟩
  · exact ofCell_sound h

theorem eget_sound {env : List V} {a : Act} (hr : RL S w κ env a.tmps.toList) (i : Nat) : RV S w κ (eget env i) (a.tmps.getD i undef) := by
  unfold eget
  rw [List.getD_eq_getElem?_getD]
  cases h : env[i]? with
  | none =>
    have hl := RL_length hr
    rw [List.getElem?_eq_none_iff] at h
    have : a.tmps.getD i undef = undef := by
      simp [Array.getD]
      intro hh
      simp at hl
      omega
    rw [this]
    exact RV_non
  | some x =>
    obtain ⟨v, hv, k⟩ := RL_get hr h
    have : a.tmps.getD i undef = v := by
      simp at hv
      simp [Array.getD_eq_getD_getElem?, hv]
    rw [this]
    exact k

theorem od_sound {env : List V} {a : Act} (hr : RL S w κ env a.tmps.toList) {o : Operand} {d : Od} (h : cOd o = some d) : RV S w κ (d.ev env) (a.eval o) := by
  unfold cOd at h
  split at h
  · cases h; exact eget_sound hr _
  · simp only [Option.map_eq_some_iff] at h
    obtain ⟨x, hx, rfl⟩ := h
    exact ofConst_sound hx
  · cases h
    simp only [Od.ev, Act.eval, RV]
    exact ⟨_, _, rfl, by simp [RL], by simp [RL]⟩
  · cases h

theorem put_sound {env : List V} {a : Act} (hr : RL S w κ env a.tmps.toList) {x : V} {v : Value} (h : RV S w κ x v) (d : Option Tmp) :
    RL S w κ (putV env d x) (a.put d v).tmps.toList := by
  cases d with
  | none => exact hr
  | some i =>
    simp only [putV, Act.put, Array.toList_setIfInBounds]
    exact RL_set i hr h

theorem RV_cells {x : V} {v : Value} (h : RV S w κ x v) (hx : x ≠ .undef) : RL S w κ x.cells v.cells.toList := by
  cases x with
  | undef => exact absurd rfl hx
  | agg cs =>
    simp only [RV] at h
    obtain ⟨a, rfl, r⟩ := h
    exact r
  | fn f a c =>
    have h' := h
    cases f with
    | yield l =>
      simp only [RV] at h
      obtain ⟨b, hb, rfl, r, q⟩ := h
      simpa [V.cells, Value.cells, RL] using h'
    | _ =>
      simp only [RV] at h
      obtain ⟨a', c', rfl, r, q⟩ := h
      simpa [V.cells, Value.cells, RL] using h'
  | bool b | int b c | str b | nilp | nils | nilm | nilf | nili =>
    have h' := h
    simp only [RV] at h
    subst h
    simpa [V.cells, Value.cells, RL] using h'
  | ptr b c | map b | ifc b c | tup b | iptr b | arr b | eptr a b c d | sl a b c d =>
    have h' := h
    simp only [RV] at h
    first
      | (obtain ⟨_, _, rfl⟩ := h; simpa [V.cells, Value.cells, RL] using h')
      | (obtain ⟨_, rfl, _⟩ := h; simpa [V.cells, Value.cells, RL] using h')
      | (obtain ⟨_, _, rfl, _⟩ := h; simpa [V.cells, Value.cells, RL] using h')
      | (obtain ⟨_, _, _, _, _, _, _, _, rfl, _⟩ := h; simpa [V.cells, Value.cells, RL] using h')
      | (obtain ⟨_, _, _, _, _, _, _, _, _, rfl, _⟩ := h; simpa [V.cells, Value.cells, RL] using h')

end
end Go.Ev

namespace Go.Ev
open Go.RowKit
set_option linter.unusedVariables false
set_option linter.unusedSectionVars false
set_option linter.unusedSimpArgs false

section
variable {P : Program} {S : Cells} {w : World} {κ : Kap}

theorem ite_some {α : Type} {c : Prop} [Decidable c] {a b : α} (h : (if c then some a else none) = some b) : c ∧ a = b := by
  split at h
  · exact ⟨by assumption, by simpa using h⟩
  · cases h
theorem ite_some' {α : Type} {c : Prop} [Decidable c] {a : Option α} {b : α} (h : (if c then a else none) = some b) : c ∧ a = some b := by
  split at h
  · exact ⟨by assumption, h⟩
  · cases h
theorem ite_none' {α : Type} {c : Prop} [Decidable c] {a : Option α} {b : α} (h : (if c then none else a) = some b) : ¬ c ∧ a = some b := by
  split at h
  · cases h
  · exact ⟨by assumption, h⟩

theorem bytes_eq (a b : ByteArray) : (a.toList == b.toList) = beqS a b := by
  rw [ByteArray.toList_eq, ByteArray.toList_eq]; rfl

theorem binV_sound {t : TypeId} {op : BinOp} {x y z : V} {u v : Value} (hx : RV S w κ x u) (hy : RV S w κ y v) (h : binV op x y = some z) :
    ∃ r, RV S w κ z r ∧ ∀ w', (binOp op t u v).run P w' = .ok r w' := by
  unfold binV at h
  split at h
  · rename_i k a k' b
    simp only [RV] at hx hy
    subst hx; subst hy
    cases op
    case shl =>
      obtain ⟨hb, h⟩ := ite_none' h
      cases h
      exact ⟨_, rfl, fun w' => by simp [binOp, Op.shift, hb]⟩
    case shr =>
      obtain ⟨hb, h⟩ := ite_none' h
      cases h
      exact ⟨_, rfl, fun w' => by simp [binOp, Op.shift, hb]⟩
    case quo =>
      obtain ⟨hk, h1⟩ := ite_some' h
      clear h
      subst hk
      obtain ⟨hb, h2⟩ := ite_none' h1
      cases h2
      exact ⟨_, rfl, fun w' => by simp [binOp, Op.intDiv, hb]⟩
    case rem =>
      obtain ⟨hk, h1⟩ := ite_some' h
      clear h
      subst hk
      obtain ⟨hb, h2⟩ := ite_none' h1
      cases h2
      exact ⟨_, rfl, fun w' => by simp [binOp, Op.intDiv, hb]⟩
    case add =>
      obtain ⟨rfl, rfl⟩ := ite_some h
      exact ⟨_, rfl, fun w' => by simp [binOp, Op.intArith]⟩
    case sub =>
      obtain ⟨rfl, rfl⟩ := ite_some h
      exact ⟨_, rfl, fun w' => by simp [binOp, Op.intArith]⟩
    case mul =>
      obtain ⟨rfl, rfl⟩ := ite_some h
      exact ⟨_, rfl, fun w' => by simp [binOp, Op.intArith]⟩
    case and =>
      obtain ⟨hk, h1⟩ := ite_some' h
      clear h
      subst hk
      simp only [intBits, Option.map_some, Option.some.injEq] at h1
      subst h1
      exact ⟨_, rfl, fun w' => by simp [binOp, Op.intBits]⟩
    case or =>
      obtain ⟨hk, h1⟩ := ite_some' h
      clear h
      subst hk
      simp only [intBits, Option.map_some, Option.some.injEq] at h1
      subst h1
      exact ⟨_, rfl, fun w' => by simp [binOp, Op.intBits]⟩
    case xor =>
      obtain ⟨hk, h1⟩ := ite_some' h
      clear h
      subst hk
      simp only [intBits, Option.map_some, Option.some.injEq] at h1
      subst h1
      exact ⟨_, rfl, fun w' => by simp [binOp, Op.intBits]⟩
    case andNot =>
      obtain ⟨hk, h1⟩ := ite_some' h
      clear h
      subst hk
      simp only [intBits, Option.map_some, Option.some.injEq] at h1
      subst h1
      exact ⟨_, rfl, fun w' => by simp [binOp, Op.intBits]⟩
    case eql =>
      obtain ⟨hk, h1⟩ := ite_some' h
      clear h
      subst hk
      simp only [intCmp, Option.map_some, Option.some.injEq] at h1
      subst h1
      exact ⟨_, rfl, fun w' => by simp [binOp, Op.intCmp]⟩
    case neq =>
      obtain ⟨hk, h1⟩ := ite_some' h
      clear h
      subst hk
      simp only [intCmp, Option.map_some, Option.some.injEq] at h1
      subst h1
      exact ⟨_, rfl, fun w' => by simp [binOp, Op.intCmp]⟩
    case lss =>
      obtain ⟨hk, h1⟩ := ite_some' h
      clear h
      subst hk
      simp only [intCmp, Option.map_some, Option.some.injEq] at h1
      subst h1
      exact ⟨_, rfl, fun w' => by simp [binOp, Op.intCmp]⟩
    case leq =>
      obtain ⟨hk, h1⟩ := ite_some' h
      clear h
      subst hk
      simp only [intCmp, Option.map_some, Option.some.injEq] at h1
      subst h1
      exact ⟨_, rfl, fun w' => by simp [binOp, Op.intCmp]⟩
    case gtr =>
      obtain ⟨hk, h1⟩ := ite_some' h
      clear h
      subst hk
      simp only [intCmp, Option.map_some, Option.some.injEq] at h1
      subst h1
      exact ⟨_, rfl, fun w' => by simp [binOp, Op.intCmp]⟩
    case geq =>
      obtain ⟨hk, h1⟩ := ite_some' h
      clear h
      subst hk
      simp only [intCmp, Option.map_some, Option.some.injEq] at h1
      subst h1
      exact ⟨_, rfl, fun w' => by simp [binOp, Op.intCmp]⟩
  · rename_i a b
    simp only [RV] at hx hy
    subst hx; subst hy
    cases op
    case add =>
      obtain ⟨hb, h⟩ := ite_none' h
      cases h
      refine ⟨_, rfl, fun w' => ?_⟩
      simp only [binOp, Op.stringOp]
      rw [if_neg hb]; rfl
    all_goals (first | (cases h; done) | (cases h; exact ⟨_, rfl, fun w' => by simp [binOp, Op.stringOp, bytes_eq, ByteArray.toList_eq, beqS]⟩))
  · cases h

theorem eqGuard_ok {op : BinOp} {t : TypeId} {x y : Operand} {u v : Value} (hu : u ≠ .nilIface) (ha : ∀ c, u ≠ .agg c) (w' : World) :
    (eqGuard op t x y u v).run P w' = .ok () w' := by
  cases u <;> first
    | exact absurd rfl hu
    | exact absurd rfl (ha _)
    | (unfold eqGuard; cases op <;> simp)

theorem unV_sound {op : UnOp} {x z : V} {u : Value} (hx : RV S w κ x u) (h : unV op x = some z) :
    ∃ r, RV S w κ z r ∧ ∀ w', (Op.unary op u).run P w' = .ok r w' := by
  unfold unV at h
  split at h
  · simp only [RV] at hx; subst hx; cases h
    exact ⟨_, rfl, fun w' => by simp [Op.unary]⟩
  · simp only [RV] at hx; subst hx; cases h
    exact ⟨_, rfl, fun w' => by simp [Op.unary, Op.intArith]⟩
  · simp only [RV] at hx; subst hx
    simp only [intBits, Option.map_some, Option.some.injEq] at h
    subst h
    exact ⟨_, rfl, fun w' => by simp [Op.unary, Op.intBits]⟩
  · cases h

theorem isAggT_run {t : TypeId} {b : Bool} (h : isAggT P t = some b) (w' : World) : (isAgg t).run P w' = .ok b w' := by
  unfold isAggT at h
  unfold isAgg
  split at h
  · rename_i hu; cases h; simp [run_underlying hu]
  · rename_i hu; cases h; simp [run_underlying hu]
  · rename_i d h1 h2 hu
    cases h
    cases d <;> first
      | exact absurd rfl (h1 _)
      | exact absurd rfl (h2 _ _)
      | simp [run_underlying hu]
  · cases h

theorem sizeT_run {t : TypeId} {n : Nat} (h : sizeT P t = some n) (w' : World) : (sizeOf t).run P w' = .ok n w' := by
  unfold sizeT at h
  simp only [Option.map_eq_some_iff] at h
  obtain ⟨i, hi, rfl⟩ := h
  simp [sizeOf, typeInfo, hi]

theorem aggT_cases {t : TypeId} {ag : Option Nat} (h : aggT P t = some ag) :
    (isAggT P t = some true ∧ ∃ n, ag = some n ∧ sizeT P t = some n) ∨ (isAggT P t = some false ∧ ag = none) := by
  unfold aggT at h
  split at h
  · rename_i hu
    simp only [Option.map_eq_some_iff] at h
    obtain ⟨n, hn, rfl⟩ := h
    exact .inl ⟨hu, n, rfl, hn⟩
  · rename_i hu; cases h; exact .inr ⟨hu, rfl⟩
  · cases h

theorem part_sound {t : TypeId} {ag : Option Nat} {xs : List V} {cs : Array Value} {off : Nat} {x : V} (ha : aggT P t = some ag)
    (hr : RL S w κ xs cs.toList) (h : ofCells ag (xs.drop off) = some x) :
    ∃ u, RV S w κ x u ∧ ∀ w', (part t cs off).run P w' = .ok u w' := by
  rcases aggT_cases ha with ⟨h1, n, rfl, hn⟩ | ⟨h1, rfl⟩
  · simp only [ofCells] at h
    obtain ⟨hl, h⟩ := ite_some h
    subst h
    refine ⟨.agg (cs.extract off (off + n)), ?_, fun w' => ?_⟩
    · simp only [RV]
      refine ⟨_, rfl, ?_⟩
      have : (cs.extract off (off + n)).toList = (cs.toList.drop off).take n := by
        rw [Array.toList_extract, List.extract_eq_take_drop]
        congr 1
        omega
      rw [this]
      exact RL_take n (RL_drop off hr)
    · simp [part, isAggT_run h1, sizeT_run hn]
  · cases hd : xs.drop off with
    | nil => rw [hd] at h; simp [ofCells] at h
    | cons c r =>
      rw [hd] at h
      simp only [ofCells, Option.some.injEq] at h
      subst h
      have hc : xs[off]? = some c := by
        have := congrArg List.head? hd
        simpa [List.head?_drop] using this
      obtain ⟨u, hu, k⟩ := RL_get hr hc
      refine ⟨u, k, fun w' => ?_⟩
      have hu' : cs[off]? = some u := by simpa using hu
      simp [part, isAggT_run h1, hu']

theorem cellEq_b {x y : V} {r : Bool} (h : cellEq .b x y = some r) : ∃ a b, x = .bool a ∧ y = .bool b ∧ r = (a == b) := by
  cases x <;> cases y <;> simp [cellEq] at h ⊢
  exact h.symm
theorem cellEq_i {x y : V} {r : Bool} (h : cellEq .i x y = some r) : ∃ k a b, x = .int k a ∧ y = .int k b ∧ r = (a == b) := by
  cases x <;> cases y <;> simp [cellEq] at h
  obtain ⟨rfl, rfl⟩ := h
  exact ⟨_, _, _, rfl, rfl, rfl⟩
theorem cellEq_s {x y : V} {r : Bool} (h : cellEq .s x y = some r) : ∃ a b, x = .str a ∧ y = .str b ∧ r = beqS a b := by
  cases x <;> cases y <;> simp [cellEq] at h ⊢
  exact h.symm

/-- A type of a cell's kind. -/
def ckT (P : Program) (t : TypeId) : Ck → Prop
  | .b => P.underlying t = some .bool
  | .i => ∃ q, P.underlying t = some (.int q)
  | .s => P.underlying t = some .string

theorem cellEq_sound {k : Ck} {x y : V} {u v : Value} {r : Bool} {t : TypeId} (hx : RV S w κ x u) (hy : RV S w κ y v) (h : cellEq k x y = some r)
    (ht : ckT P t k) (D : Nat) (w' : World) : (Op.equalIn (D + 1) t u v).run P w' = .ok r w' := by
  cases k with
  | b =>
    obtain ⟨a, b, rfl, rfl, rfl⟩ := cellEq_b h
    simp only [RV] at hx hy
    subst hx; subst hy
    exact run_equalIn_bool' w' D t _ _ ht
  | i =>
    obtain ⟨k, a, b, rfl, rfl, rfl⟩ := cellEq_i h
    simp only [RV] at hx hy
    subst hx; subst hy
    obtain ⟨q, hq⟩ := ht
    exact run_equalIn_int w' D t _ q _ _ hq
  | s =>
    obtain ⟨a, b, rfl, rfl, rfl⟩ := cellEq_s h
    simp only [RV] at hx hy
    subst hx; subst hy
    rw [run_equalIn_string w' D t _ _ ht, bytes_eq]

theorem eqFields_sound (D : Nat) (go : TypeId → Option Eqd)
    (hgo : ∀ t q, go t = some q → ∀ x y u v r, RV S w κ x u → RV S w κ y v → eqdV q x y = some r → ∀ w', (Op.equalIn D t u v).run P w' = .ok r w')
    {xs ys : List V} {cs ds : Array Value} (hx : RL S w κ xs cs.toList) (hy : RL S w κ ys ds.toList) :
    ∀ (fs : List Field) (q : Eqd) (r : Bool), eqD.eqFs P go fs = some q → eqdV q (.agg xs) (.agg ys) = some r →
      ∀ w', (Op.eqFields D cs ds fs).run P w' = .ok r w' := by
  intro fs
  induction fs with
  | nil =>
    intro q r hq he w'
    simp only [eqD.eqFs, Option.some.injEq] at hq
    subst hq
    simp only [eqdV, Option.some.injEq] at he
    subst he
    simp [Op.eqFields]
  | cons f fs ih =>
    intro q r hq he w'
    simp only [eqD.eqFs] at hq
    split at hq
    · rename_i hn
      simp only [Op.eqFields, hn, ne_eq, not_true, if_false]
      exact ih q r hq he w'
    · rename_i hn
      split at hq
      · rename_i q1 ag r1 h1 h2 h3
        cases hq
        simp only [eqdV] at he
        split at he
        · rename_i a ha
          split at he
          · rename_i b hb
            split at he
            · rename_i p hp
              split at he
              · rename_i qq hqq
                cases he
                obtain ⟨u, hu, pu⟩ := part_sound (P := P) h2 hx ha
                obtain ⟨v, hv, pv⟩ := part_sound (P := P) h2 hy hb
                have e1 := hgo _ _ h1 a b u v p hu hv hp
                have e2 := ih r1 qq h3 hqq
                simp only [Op.eqFields, ne_eq, hn, not_false_eq_true, if_true, Sem.run_bind, pu, pv, e1, Result.andThen_ok]
                cases p with
                | false => simp
                | true => simp [e2]
              · cases he
            · cases he
          · cases he
        · cases he
      · cases hq

/-- The elements of two arrays. -/
def eqElems (d : Nat) (e : TypeId) (n : Nat) (xs ys : Array Value) : List Nat → Sem Bool
  | [] => pure true
  | i :: is => do
    let a ← part e xs (i * n)
    let b ← part e ys (i * n)
    let r ← Op.equalIn d e a b
    if (!r) = true then pure false else eqElems d e n xs ys is

theorem run_equalIn_array (d : Nat) (t e : TypeId) (len n : Nat) (xs ys : Array Value) (ht : P.underlying t = some (.array len e)) (hn : sizeT P e = some n) (w' : World) :
    (Op.equalIn (d + 1) t (.agg xs) (.agg ys)).run P w' = (eqElems d e n xs ys (List.range len)).run P w' := by
  simp only [Op.equalIn, Sem.run_bind, run_underlying ht, Result.andThen_ok, sizeT_run hn]
  rw [Std.Legacy.Range.forIn_eq_forIn_range']
  simp only [Std.Legacy.Range.size, Nat.sub_zero, Nat.add_sub_cancel, Nat.div_one, ← List.range_eq_range']
  generalize List.range len = is
  induction is generalizing w' with
  | nil => simp [eqElems]
  | cons i is ih =>
    simp only [List.forIn_cons, eqElems, Sem.run_bind, Sem.run_ite]
    generalize (part e xs (i * n)).run P w' = r1
    cases r1 with
    | ok a w1 =>
      simp only [Result.andThen_ok]
      generalize (part e ys (i * n)).run P w1 = r2
      cases r2 with
      | ok b w2 =>
        simp only [Result.andThen_ok]
        generalize (Op.equalIn d e a b).run P w2 = r3
        cases r3 with
        | ok r w3 =>
          cases r
          · simp only [Result.andThen_ok, Bool.not_false, if_true, Sem.run_pure]
          · simp only [Result.andThen_ok, Bool.not_true, Bool.false_eq_true, if_false, Sem.run_pure]
            exact ih w3
        | halt x w3 => simp [Result.andThen]
      | halt x w2 => simp [Result.andThen]
    | halt x w1 => simp [Result.andThen]

theorem eqElems_sound (D : Nat) {e : TypeId} {n : Nat} {ag : Option Nat} {q : Eqd} (ha : aggT P e = some ag)
    (hgo : ∀ x y u v r, RV S w κ x u → RV S w κ y v → eqdV q x y = some r → ∀ w', (Op.equalIn D e u v).run P w' = .ok r w')
    {xs ys : List V} {cs ds : Array Value} (hx : RL S w κ xs cs.toList) (hy : RL S w κ ys ds.toList) :
    ∀ (m i : Nat) (r : Bool), eqdV (eqD.eqAs n ag q m i) (.agg xs) (.agg ys) = some r →
      ∀ w', (eqElems D e n cs ds (List.range' i m)).run P w' = .ok r w' := by
  intro m
  induction m with
  | zero =>
    intro i r he w'
    simp only [eqD.eqAs, eqdV, Option.some.injEq] at he
    subst he
    simp [eqElems]
  | succ m ih =>
    intro i r he w'
    simp only [eqD.eqAs, eqdV] at he
    split at he
    · rename_i a hxa
      split at he
      · rename_i b hyb
        split at he
        · rename_i p hp
          split at he
          · rename_i qq hqq
            cases he
            obtain ⟨u, hu, pu⟩ := part_sound (P := P) ha hx hxa
            obtain ⟨v, hv, pv⟩ := part_sound (P := P) ha hy hyb
            have e1 := hgo a b u v p hu hv hp
            have e2 := ih (i + 1) qq hqq
            simp only [List.range'_succ, eqElems, Sem.run_bind, pu, pv, e1, Result.andThen_ok]
            cases p with
            | false => simp
            | true => simp [e2]
          · cases he
        · cases he
      · cases he
    · cases he

/-- An agg, or a cell of a kind: what `eqdV` answers at all. -/
theorem eqdV_cons {off : Nat} {ag : Option Nat} {d r : Eqd} {x y : V} {b : Bool} (h : eqdV (.cons off ag d r) x y = some b) : ∃ xs ys, x = .agg xs ∧ y = .agg ys := by
  cases x <;> cases y <;> simp [eqdV] at h ⊢

theorem nn_some {a q : Eqd} (h : eqD.nn a = some q) : a = q ∧ ∃ x y z t, q = .cons x y z t := by
  cases a <;> simp [eqD.nn] at h
  subst h
  exact ⟨rfl, _, _, _, _, rfl⟩

/-- `==`, as the machine does it. -/
theorem eqdV_sound : ∀ (d : Nat) (t : TypeId) (q : Eqd), eqD P d t = some q → ∀ x y u v r,
    RV S w κ x u → RV S w κ y v → eqdV q x y = some r → ∀ D w', d ≤ D → (Op.equalIn D t u v).run P w' = .ok r w' := by
  intro d
  induction d with
  | zero => intro t q h; simp [eqD] at h
  | succ d ih =>
    intro t q h x y u v r hx hy he D w' hD
    obtain ⟨D, rfl⟩ : ∃ m, D = m + 1 := ⟨D - 1, by omega⟩
    simp only [eqD] at h
    split at h
    · rename_i ht; cases h; exact cellEq_sound hx hy he ht D w'
    · rename_i k ht; cases h; exact cellEq_sound hx hy he (k := .i) ⟨_, ht⟩ D w'
    · rename_i ht; cases h; exact cellEq_sound hx hy he ht D w'
    · rename_i fs ht
      obtain ⟨hst, h⟩ := ite_none' h
      simp only [Option.bind_eq_some_iff] at h
      obtain ⟨q', hq', h⟩ := h
      obtain ⟨rfl, a, b, c, e, rfl⟩ := nn_some h
      obtain ⟨xs, ys, rfl, rfl⟩ := eqdV_cons he
      simp only [RV] at hx hy
      obtain ⟨cs, rfl, hx⟩ := hx
      obtain ⟨ds, rfl, hy⟩ := hy
      have hf : P.fieldsOf t = fs := by simp [Program.fieldsOf, ht]
      rw [run_equalIn_struct w' D t cs ds (by rw [hf]; exact ht) (by simpa using hst), hf]
      exact eqFields_sound D (eqD P d) (fun t' q' h' x' y' u' v' r' hx' hy' he' w'' => ih t' q' h' x' y' u' v' r' hx' hy' he' D w'' (by omega)) hx hy fs.toList _ _ hq' he w'
    · rename_i n e ht
      simp only [Option.bind_eq_some_iff] at h
      obtain ⟨s, hs, ag, hag, q', hq', h⟩ := h
      obtain ⟨h1, a, b, c, e', rfl⟩ := nn_some h
      obtain ⟨xs, ys, rfl, rfl⟩ := eqdV_cons he
      simp only [RV] at hx hy
      obtain ⟨cs, rfl, hx⟩ := hx
      obtain ⟨ds, rfl, hy⟩ := hy
      rw [run_equalIn_array D t e n s cs ds ht hs, List.range_eq_range']
      refine eqElems_sound D hag (fun x' y' u' v' r' hx' hy' he' w'' => ih e q' hq' x' y' u' v' r' hx' hy' he' D w'' (by omega)) hx hy n 0 _ ?_ w'
      rw [h1]; exact he
    · cases h

/-! ### The pure operations -/
/-- A value that is the same in every world. -/
def Same (P : Program) (S : Cells) (w : World) (κ : Kap) (x : V) (s : Sem Next) : Prop :=
  ∃ v, RV S w κ x v ∧ ∀ w', s.run P w' = .ok (.value v) w'

theorem Same.of {x : V} {s : Sem Value} (h : ∃ v, RV S w κ x v ∧ ∀ w', s.run P w' = .ok v w') : Same P S w κ x (do pure (.value (← s))) := by
  obtain ⟨v, hv, hs⟩ := h
  exact ⟨v, hv, fun w' => by simp [hs]⟩

theorem okV_sound {h h' : Heap} {o : Option V} {x : V} (e : okV h o = some (x, h')) : o = some x ∧ h' = h := by
  cases o with
  | none => simp [okV] at e
  | some v => simp at e; exact ⟨by rw [e.1], e.2.symm⟩

theorem RC_drop : ∀ (n : Nat) {xs : List V} {b o : Nat}, RC S w xs b o → RC S w (xs.drop n) b (o + n)
  | 0, xs, b, o, h => by simpa using h
  | n + 1, [], b, o, h => by simp [RC]
  | n + 1, x :: xs, b, o, h => by
    simp only [RC] at h
    simp only [List.drop_succ_cons]
    have := RC_drop n h.2.2
    rwa [Nat.add_assoc, Nat.add_comm 1 n] at this
theorem RE_get : ∀ {xs : List (List V)} {b o sz : Nat}, RE S w xs b o sz → ∀ {i : Nat} {e : List V}, xs[i]? = some e → e.length = sz ∧ RC S w e b (o + i * sz)
  | [], b, o, sz, h, i, e, hi => by simp at hi
  | x :: xs, b, o, sz, h, i, e, hi => by
    simp only [RE] at h
    cases i with
    | zero => simp at hi; subst hi; simpa using ⟨h.1, h.2.1⟩
    | succ i =>
      simp at hi
      have := RE_get h.2.2 hi
      rw [Nat.add_mul, Nat.one_mul]
      rwa [Nat.add_assoc, Nat.add_comm sz] at this

theorem faddrV_sound {P : Program} {t : TypeId} {fs : Array Field} {f : Nat} {g : Field} {n : Nat} (ht : P.underlying t = some (.struct fs)) (hg : fs[f]? = some g)
    (hn : sizeT P g.type = some n) (h0 : n ≠ 0) {x z : V} {u : Value} (hx : RV S w κ x u) (h : faddrV g.offset x = some z) :
    ∃ v, RV S w κ z v ∧ ∀ w', (Instr.fieldAt t u f).run P w' = .ok v w' := by
  have run : ∀ a w', (Instr.fieldAt t (.pointer (some a)) f).run P w' = .ok (.pointer (some (a.add g.offset))) w' := fun a w' => by
    simp [Instr.fieldAt, run_underlying ht, hg, Instr.sureAddr, fieldPlace, sizeT_run hn, h0]
  cases x <;> simp only [faddrV, Option.some.injEq, reduceCtorEq] at h
  · subst h
    simp only [RV] at hx
    obtain ⟨b, hb, rfl⟩ := hx
    refine ⟨_, ?_, run _⟩
    simp only [RV]
    refine ⟨b, hb, ?_⟩
    simp only [Addr.add]
    split
    · rename_i h; simp [h]
    · rfl
  · subst h
    simp only [RV] at hx
    obtain ⟨e, b, st, cp, sz, p, hb, le, rfl, k⟩ := hx
    refine ⟨_, ?_, run _⟩
    simp only [RV]
    refine ⟨e, b, st, cp, sz, _, hb, le, rfl, fun he => ?_⟩
    obtain ⟨k1, rfl⟩ := k he
    refine ⟨k1, ?_⟩
    simp only [Addr.add]
    split
    · rename_i h; simp [h]
    · simp [Nat.add_assoc]
  · obtain ⟨hl, rfl⟩ := ite_some h
    simp only [RV] at hx
    obtain ⟨b, o, rfl, k⟩ := hx
    refine ⟨_, ?_, run _⟩
    simp only [RV]
    refine ⟨b, o + g.offset, ?_, RC_drop g.offset k⟩
    simp only [Addr.add]
    split
    · rename_i h; simp [h]
    · rfl

end
end Go.Ev

namespace Go.Ev
open Go.RowKit
set_option linter.unusedVariables false
set_option linter.unusedSectionVars false
set_option linter.unusedSimpArgs false

section
variable {P : Program} {B : Nat} {S : Cells} {w : World} {κ : Kap} {h : Heap}

theorem add_off (b o n : Nat) : (⟨b, o, none⟩ : Addr).add n = ⟨b, o + n, none⟩ := by
  simp only [Addr.add]
  split
  · rename_i h; simp [h]
  · rfl

theorem row_elem (inv : Inv P B S w κ h) {id sz : Nat} {xs : List (List V)} {ep : Nat} {wr : Bool} (hi : h[id]? = some (.row sz xs ep wr)) :
    ∃ b st cp c el fr, κ id = some (.row ep b st cp sz) ∧ w.heap[b]? = some (.cells c el fr) ∧ NR sz fr c.size ∧
      0 < sz ∧ c.size = cp * sz ∧ st ≤ xs.length ∧ xs.length ≤ st + cp ∧ (∀ e ∈ xs, e.length = sz ∧ e.all V.isCell = true) ∧
      RR S w κ xs st sz c.toList ∧
      (∀ o, (xs.length - st) * sz ≤ o → ¬ S b o) ∧ (wr = true → ∀ o, ¬ S b o) := inv.obs id _ hi

theorem indexAt_run {t e : TypeId} {n : Nat} (ht : P.underlying t = some (.slice e)) (hn : sizeT P e = some n) (k : IntKind) (i : Int) (a : Addr) (l c : Nat) (h0 : 0 ≤ i) (h1 : i < l) (w' : World) :
    (Instr.indexAt t (.slice (some a) l c) (.int k i)).run P w' = .ok (.pointer (some (a.add (i.toNat * n)))) w' := by
  simp [Instr.indexAt, asIntOf, run_underlying ht, sizeT_run hn, h0, h1]

theorem iaddrV_sound (inv : Inv P B S w κ h) {t e : TypeId} {n : Nat} (ht : P.underlying t = some (.slice e)) (hn : sizeT P e = some n) {x i z : V} {u v : Value}
    (hx : RV S w κ x u) (hi : RV S w κ i v) (hh : iaddrV h n x i = some z) :
    ∃ r, RV S w κ z r ∧ ∀ w', (Instr.indexAt t u v).run P w' = .ok r w' := by
  unfold iaddrV at hh
  split at hh
  · rename_i q m
    simp only [RV] at hi
    subst hi
    split at hh
    · rename_i xs
      obtain ⟨hm, hh⟩ := ite_some' hh
      split at hh
      · rename_i ce hce
        obtain ⟨hl, rfl⟩ := ite_some hh
        simp only [RV] at hx
        obtain ⟨a, cap, rfl, hcap, hx⟩ := hx
        rcases hx with rfl | ⟨b, o, sz, rfl, hre⟩
        · simp at hm; omega
        · obtain ⟨g1, g2⟩ := RE_get hre hce
          refine ⟨_, ?_, indexAt_run ht hn q m _ _ _ hm.1 hm.2⟩
          simp only [RV]
          refine ⟨b, o + m.toNat * n, ?_, ?_⟩
          · rw [add_off]
          · rw [← hl, g1]; exact g2
      · cases hh
    · rename_i id ep off len
      obtain ⟨hm, hh⟩ := ite_some' hh
      split at hh
      · rename_i zz xs cur wr hrow
        obtain ⟨⟨hep, hzz, hlt⟩, rfl⟩ := ite_some hh
        clear hh
        subst hep
        subst hzz
        obtain ⟨b, st, cp, c, el, fr, g1, g2, g3, g4, g5, g6, g7, g8, g9, g10, g11⟩ := row_elem inv hrow
        simp only [RV] at hx
        obtain ⟨e', b', st', cp', sz', a, c', k1, k2, rfl, kl, k3⟩ := hx
        rw [g1] at k1
        cases k1
        obtain ⟨k4, k5, k6, k7⟩ := k3 rfl
        refine ⟨_, ?_, indexAt_run ht hn q m _ _ _ hm.1 hm.2⟩
        simp only [RV]
        refine ⟨_, b, st, cp, _, _, g1, Nat.le_refl _, rfl, fun _ => ⟨by omega, ?_⟩⟩
        rcases k7 with k7 | rfl
        · omega
        · rw [add_off, Nat.add_zero]
          congr 1
          rw [← Nat.add_mul]
          congr 1
          omega
      · cases hh
    · cases hh
  · cases hh

theorem sureAddr_ptr (a : Addr) (w' : World) : (Instr.sureAddr (.pointer (some a))).run P w' = .ok a w' := rfl

theorem faddrAny {x z : V} {u : Value} {n : Nat} (hx : RV S w κ x u) (h : faddrV n x = some z) :
    ∃ a, u = .pointer (some a) ∧ RV S w κ z (.pointer (some (a.add n))) := by
  cases x <;> simp only [faddrV, Option.some.injEq, reduceCtorEq] at h
  · subst h
    simp only [RV] at hx ⊢
    obtain ⟨b, hb, rfl⟩ := hx
    exact ⟨_, rfl, b, hb, by rw [add_off]⟩
  · subst h
    simp only [RV] at hx ⊢
    obtain ⟨e, b, st, cp, sz, p, hb, le, rfl, k⟩ := hx
    refine ⟨_, rfl, e, b, st, cp, sz, _, hb, le, rfl, fun he => ?_⟩
    obtain ⟨k1, rfl⟩ := k he
    exact ⟨k1, by rw [add_off, Nat.add_assoc]⟩
  · obtain ⟨hl, rfl⟩ := ite_some h
    simp only [RV] at hx ⊢
    obtain ⟨b, o, rfl, k⟩ := hx
    exact ⟨_, rfl, b, o + n, by rw [add_off], RC_drop n k⟩

theorem iaddrA_sound {t e : TypeId} {len n : Nat} (ht : P.underlying t = some (.array len e)) (hn : sizeT P e = some n) {x i z : V} {u v : Value} {h' : Heap}
    (hx : RV S w κ x u) (hi : RV S w κ i v) (hh : evIaddrA h len n x i = some (z, h')) :
    h' = h ∧ ∃ r, RV S w κ z r ∧ ∀ w', (Instr.indexAt t u v).run P w' = .ok r w' := by
  unfold evIaddrA at hh
  split at hh
  · rename_i q m
    simp only [RV] at hi
    subst hi
    obtain ⟨hm, h1⟩ := ite_some' hh
    obtain ⟨h2, h3⟩ := okV_sound h1
    subst h3
    obtain ⟨a, rfl, hz⟩ := faddrAny hx h2
    refine ⟨rfl, _, hz, fun w' => ?_⟩
    simp [Instr.indexAt, asIntOf, run_underlying ht, sizeT_run hn, hm.1, hm.2, Instr.sureAddr]
  · cases hh

theorem idxS_sound {t : TypeId} (ht : P.underlying t = some .string) {x i z : V} {u v : Value} {h' : Heap}
    (hx : RV S w κ x u) (hi : RV S w κ i v) (hh : evIdxS h x i = some (z, h')) :
    h' = h ∧ ∃ r, RV S w κ z r ∧ ∀ w', (Instr.index t u v).run P w' = .ok r w' := by
  unfold evIdxS at hh
  split at hh
  · split at hh
    · simp only [RV] at hx hi
      subst hx; subst hi
      obtain ⟨hm, h1⟩ := ite_some' hh
      clear hh
      split at h1
      · rename_i b hb
        obtain ⟨h2, h3⟩ := okV_sound h1
        cases h2
        subst h3
        refine ⟨rfl, _, rfl, fun w' => ?_⟩
        simp [Instr.index, asIntOf, run_underlying ht, hm, hb]
      · cases h1
    · cases hh
  · cases hh

theorem okCells_sound {h' : Heap} {ag : Option Nat} {cs : List V} {z : V} (hh : okCells h ag (some cs) = some (z, h')) : ofCells ag cs = some z ∧ h' = h := by
  cases ag with
  | none =>
    cases cs with
    | nil => simp [okCells] at hh
    | cons c r => simp [okCells, ofCells] at hh ⊢; exact ⟨hh.1, hh.2.symm⟩
  | some n =>
    simp only [okCells, fS_eq] at hh
    obtain ⟨hl, hh⟩ := ite_some hh
    cases hh
    exact ⟨by simp [ofCells, hl], rfl⟩

theorem idxA_sound {t e : TypeId} {len n : Nat} {ag : Option Nat} (ht : P.underlying t = some (.array len e)) (hn : sizeT P e = some n) (ha : aggT P e = some ag)
    {x i z : V} {u v : Value} {h' : Heap} (hx : RV S w κ x u) (hi : RV S w κ i v) (hh : evIdxA h len n ag x i = some (z, h')) :
    h' = h ∧ ∃ r, RV S w κ z r ∧ ∀ w', (Instr.index t u v).run P w' = .ok r w' := by
  unfold evIdxA at hh
  split at hh
  · split at hh
    · rename_i cs _ q m
      simp only [RV] at hx hi
      subst hi
      obtain ⟨a, rfl, hx⟩ := hx
      obtain ⟨hm, h1⟩ := ite_some' hh
      obtain ⟨h2, h3⟩ := okCells_sound h1
      subst h3
      obtain ⟨r, hr, pr⟩ := part_sound (P := P) ha hx h2
      refine ⟨rfl, r, hr, fun w' => ?_⟩
      simp [Instr.index, asIntOf, run_underlying ht, hm.1, hm.2, sizeT_run hn, pr]
    · cases hh
  · cases hh

theorem field_sound {t : TypeId} {fs : Array Field} {f : Nat} {g : Field} {ag : Option Nat} (ht : P.underlying t = some (.struct fs)) (hg : fs[f]? = some g)
    (ha : aggT P g.type = some ag) {x z : V} {u : Value} {h' : Heap} (hx : RV S w κ x u) (hh : evField h g.offset ag x = some (z, h')) :
    h' = h ∧ ∃ r, RV S w κ z r ∧ ∀ w', (Instr.field t u f).run P w' = .ok r w' := by
  unfold evField at hh
  split at hh
  · simp only [RV] at hx
    obtain ⟨a, rfl, hx⟩ := hx
    obtain ⟨h2, h3⟩ := okCells_sound hh
    subst h3
    obtain ⟨r, hr, pr⟩ := part_sound (P := P) ha hx h2
    refine ⟨rfl, r, hr, fun w' => ?_⟩
    simp [Instr.field, run_underlying ht, hg, asAgg, pr]
  · cases hh

theorem ext_sound {i : Nat} {x z : V} {u : Value} {h' : Heap} (hx : RV S w κ x u) (hh : evExt h x i = some (z, h')) :
    h' = h ∧ ∃ r, RV S w κ z r ∧ ∀ w', (Instr.extract u i).run P w' = .ok r w' := by
  unfold evExt at hh
  split at hh
  · simp only [RV] at hx
    obtain ⟨a, rfl, hx⟩ := hx
    split at hh
    · rename_i v hv
      cases hh
      obtain ⟨r, hr, k⟩ := RL_get hx hv
      refine ⟨rfl, r, k, fun w' => ?_⟩
      have : a[i]? = some r := by simpa using hr
      simp [Instr.extract, this]
    · cases hh
  · cases hh

theorem nilchk_sound {x z : V} {u : Value} {h' : Heap} (hx : RV S w κ x u) (hh : evNilchk h x = some (z, h')) :
    h' = h ∧ z = x ∧ (∃ a, u = .pointer (some a) ∨ ∃ f a c, u = .func (.func f) a c ∨ u = .func (.yield f) a c) := by
  unfold evNilchk at hh
  split at hh
  · cases hh
    simp only [RV] at hx
    obtain ⟨b, _, rfl⟩ := hx
    exact ⟨rfl, rfl, _, .inl rfl⟩
  · cases hh
    simp only [RV] at hx
    obtain ⟨_, _, _, _, _, _, _, _, rfl, _⟩ := hx
    exact ⟨rfl, rfl, _, .inl rfl⟩
  · cases hh
    simp only [RV] at hx
    obtain ⟨b, _, rfl, _⟩ := hx
    exact ⟨rfl, rfl, _, .inl rfl⟩
  · split at hh
    · cases hh
      simp only [RV] at hx
      obtain ⟨_, _, rfl, _⟩ := hx
      exact ⟨rfl, rfl, ⟨0, 0, none⟩, .inr ⟨_, _, _, .inl rfl⟩⟩
    · cases hh
      simp only [RV] at hx
      obtain ⟨_, _, rfl, _⟩ := hx
      exact ⟨rfl, rfl, ⟨0, 0, none⟩, .inr ⟨_, _, _, .inr rfl⟩⟩
    · cases hh
  · cases hh
end
end Go.Ev

namespace Go.Ev
open Go.RowKit
set_option linter.unusedVariables false
set_option linter.unusedSectionVars false
set_option linter.unusedSimpArgs false

section
variable {P : Program} {B : Nat} {S : Cells} {w : World} {κ : Kap} {h : Heap}

/-- What the machine does, and what holds behind it. -/
def Good (P : Program) (B : Nat) (S : Cells) (w : World) (κ : Kap) (h' : Heap) (x : V) (s : Sem Next) : Prop :=
  ∃ v w' S' κ', (s.run P w = .ok (.value v) w' ∨ (v = undef ∧ s.run P w = .ok .skip w')) ∧ Inv P B S' w' κ' h' ∧ Stp B S w κ S' w' κ' ∧ RV S' w' κ' x v

theorem Good.same (inv : Inv P B S w κ h) {x : V} {s : Sem Next} (hs : Same P S w κ x s) : Good P B S w κ h x s :=
  let ⟨v, hv, hr⟩ := hs
  ⟨v, w, S, κ, .inl (hr w), inv, .refl _ _ _ _, hv⟩

theorem Good.here (inv : Inv P B S w κ h) {x : V} {s : Sem Value} (hs : ∃ v, RV S w κ x v ∧ s.run P w = .ok v w) : Good P B S w κ h x (do pure (.value (← s))) :=
  let ⟨v, hv, hr⟩ := hs
  ⟨v, w, S, κ, .inl (by simp [hr]), inv, .refl _ _ _ _, hv⟩

/-- The cells from an address on. -/
def Cel (S : Cells) (w : World) (κ : Kap) (b o : Nat) (cs : List V) : Prop :=
  ∀ (j : Nat) (x : V), cs[j]? = some x → ∃ v, w.cell? ⟨b, o + j, none⟩ = some v ∧ RV S w κ x v

theorem Cel_of_RC : ∀ {cs : List V} {b o : Nat}, RC S w cs b o → Cel S w κ b o cs
  | [], b, o, _, j, x, hx => by simp at hx
  | y :: cs, b, o, hc, j, x, hx => by
    simp only [RC] at hc
    cases j with
    | zero =>
      simp at hx; subst hx
      obtain ⟨_, ⟨c, h1, _, h2⟩, _⟩ := hc
      exact ⟨c, by simpa using h1, RV.mono (.refl _ _) (fun _ _ h => by cases h) _ _ h2⟩
    | succ j =>
      simp at hx
      obtain ⟨v, h1, h2⟩ := Cel_of_RC hc.2.2 j x hx
      exact ⟨v, by rwa [Nat.add_assoc, Nat.add_comm 1 j] at h1, h2⟩

theorem flatten_get (sz : Nat) : ∀ (xs : List (List V)), (∀ e ∈ xs, e.length = sz) → ∀ (i j : Nat) (e : List V), xs[i]? = some e → j < sz → xs.flatten[i * sz + j]? = e[j]?
  | [], _, i, j, e, hi, _ => by simp at hi
  | y :: xs, hl, i, j, e, hi, hj => by
    have hy := hl y (by simp)
    cases i with
    | zero =>
      simp at hi; subst hi
      simp [List.getElem?_append, hy, hj]
    | succ i =>
      simp at hi
      have := flatten_get sz xs (fun e he => hl e (by simp [he])) i j e hi hj
      rw [List.flatten_cons, List.getElem?_append_right (by rw [hy, Nat.add_mul]; omega), hy, ← this]
      congr 1
      rw [Nat.add_mul]; omega

/-- An element's cells in a row's block. -/
theorem row_cel {xs : List (List V)} {st sz b : Nat} {c : Array Value} {el : TypeId} {fr : Nat × Nat} (hc : w.heap[b]? = some (.cells c el fr))
    (hl : ∀ e ∈ xs, e.length = sz ∧ e.all V.isCell = true) (hr : RR S w κ xs st sz c.toList)
    {i : Nat} (hi : st ≤ i) {e : List V} (he : xs[i]? = some e) : Cel S w κ b ((i - st) * sz) e := by
  intro j x hx
  have hlen := (hl e (List.mem_of_getElem? he)).1
  have hj : j < sz := by
    rw [← hlen]
    exact (List.getElem?_eq_some_iff.1 hx).1
  obtain ⟨v, hv, k⟩ := RL_get (hr i e hi he) hx
  refine ⟨v, ?_, k⟩
  rw [cell?_of w b _ hc]
  rw [List.getElem?_take, if_pos hj, List.getElem?_drop] at hv
  simpa using hv

theorem Cel_drop {b o n : Nat} {cs : List V} (hc : Cel S w κ b o cs) : Cel S w κ b (o + n) (cs.drop n) := by
  intro j x hx
  rw [List.getElem?_drop] at hx
  obtain ⟨v, h1, h2⟩ := hc (n + j) x hx
  exact ⟨v, by rwa [← Nat.add_assoc] at h1, h2⟩

theorem cellsAt_sound (inv : Inv P B S w κ h) {x : V} {u : Value} {cs : List V} (hx : RV S w κ x u) (hh : cellsAt h x = some cs) :
    ∃ b o, u = .pointer (some ⟨b, o, none⟩) ∧ Cel S w κ b o cs := by
  unfold cellsAt at hh
  split at hh
  · rename_i id off
    split at hh
    · rename_i cs0 hi
      cases hh
      obtain ⟨b, c, el, fr, h1, h2, h3, h4, h5, h6⟩ := inv.obs _ _ hi
      simp only [RV] at hx
      obtain ⟨b', k1, rfl⟩ := hx
      rw [h1] at k1; cases k1
      refine ⟨b, off, rfl, fun j x hx => ?_⟩
      rw [List.getElem?_drop] at hx
      obtain ⟨v, hv, k⟩ := RL_get h4 hx
      exact ⟨v, by rw [cell?_of w b _ h2]; simpa using hv, k⟩
    · cases hh
  · rename_i id ep idx off
    split at hh
    · rename_i zz xs cur wr hi
      obtain ⟨hep, h1⟩ := ite_some' hh
      subst hep
      simp only [Option.map_eq_some_iff] at h1
      obtain ⟨e, he, rfl⟩ := h1
      obtain ⟨b, st, cp, c, el, fr, g1, g2, g3, g4, g5, g6, g7, g8, g9, g10, g11⟩ := row_elem inv hi
      simp only [RV] at hx
      obtain ⟨e', b', st', cp', sz', p, k1, k2, rfl, k3⟩ := hx
      rw [g1] at k1; cases k1
      obtain ⟨k4, rfl⟩ := k3 rfl
      exact ⟨_, _, rfl, Cel_drop (row_cel g2 g8 g9 k4 he)⟩
    · cases hh
  · cases hh
    simp only [RV] at hx
    obtain ⟨b, o, rfl, hc⟩ := hx
    exact ⟨b, o, rfl, Cel_of_RC hc⟩
  · cases hh

/-- The values of the first so many of them. -/
theorem Cel_list : ∀ (n : Nat) {b o : Nat} {cs : List V}, Cel S w κ b o cs → n ≤ cs.length →
    ∃ vs : List Value, vs.length = n ∧ RL S w κ (cs.take n) vs ∧ ∀ j v, vs[j]? = some v → w.cell? ⟨b, o + j, none⟩ = some v
  | 0, b, o, cs, _, _ => ⟨[], rfl, by simp [RL], fun j v h => by simp at h⟩
  | n + 1, b, o, [], _, hn => by simp at hn
  | n + 1, b, o, c :: cs, hc, hn => by
    obtain ⟨v, h1, h2⟩ := hc 0 c rfl
    have hc' : Cel S w κ b (o + 1) cs := by simpa using Cel_drop (n := 1) hc
    obtain ⟨vs, l, r, k⟩ := Cel_list n hc' (by simpa using hn)
    refine ⟨v :: vs, by simp [l], by simpa [RL] using ⟨h2, r⟩, fun j u hu => ?_⟩
    cases j with
    | zero => simp at hu; subst hu; exact h1
    | succ j =>
      simp at hu
      have := k j u hu
      rwa [Nat.add_assoc, Nat.add_comm 1 j] at this

theorem Cel_load {ag : Option Nat} {b o : Nat} {cs : List V} {t : TypeId} (ha : aggT P t = some ag) (hc : Cel S w κ b o cs) {z : V} (hz : ofCells ag cs = some z) :
    ∃ v, RV S w κ z v ∧ (loadVar t ⟨b, o, none⟩).run P w = .ok v w := by
  rcases aggT_cases ha with ⟨h1, n, rfl, hn⟩ | ⟨h1, rfl⟩
  · simp only [ofCells] at hz
    obtain ⟨hl, rfl⟩ := ite_some hz
    obtain ⟨vs, l, r, k⟩ := Cel_list n hc hl
    refine ⟨.agg vs.toArray, ?_, ?_⟩
    · simp only [RV]
      exact ⟨_, rfl, by simpa using r⟩
    · have := run_loadCells_list (P := P) w ⟨b, o, none⟩ vs (fun j v hv => by rw [add_off]; exact k j v hv)
      rw [l] at this
      simp [loadVar, isAggT_run h1, sizeT_run hn, this]
  · cases cs with
    | nil => simp [ofCells] at hz
    | cons c r =>
      simp only [ofCells, Option.some.injEq] at hz
      subst hz
      obtain ⟨v, h2, k⟩ := hc 0 c rfl
      refine ⟨v, k, ?_⟩
      rw [Nat.add_zero] at h2
      simp [loadVar, isAggT_run h1, h2]

theorem load_sound (inv : Inv P B S w κ h) {t : TypeId} {ag : Option Nat} (ha : aggT P t = some ag) {x z : V} {u : Value} {h' : Heap}
    (hx : RV S w κ x u) (hh : okCells h ag (cellsAt h x) = some (z, h')) : h' = h ∧ ∃ v, RV S w κ z v ∧ (Instr.loadAt t u).run P w = .ok v w := by
  cases hc : cellsAt h x with
  | none => rw [hc] at hh; simp [okCells] at hh
  | some cs =>
    rw [hc] at hh
    obtain ⟨h1, h2⟩ := okCells_sound hh
    obtain ⟨b, o, rfl, k⟩ := cellsAt_sound inv hx hc
    obtain ⟨v, hv, r⟩ := Cel_load ha k h1
    exact ⟨h2, v, hv, by simp [Instr.loadAt, Instr.sureAddr, r]⟩
/-! ### Stores -/
def putA (c : Array Value) (o : Nat) : List Value → Array Value
  | [] => c
  | v :: r => putA (c.setIfInBounds o v) (o + 1) r

theorem putA_size : ∀ (vs : List Value) (c : Array Value) (o : Nat), (putA c o vs).size = c.size
  | [], _, _ => rfl
  | v :: r, c, o => by rw [putA, putA_size r]; simp

theorem putA_get : ∀ (vs : List Value) (c : Array Value) (o : Nat), o + vs.length ≤ c.size → ∀ i,
    (putA c o vs)[i]? = if o ≤ i ∧ i < o + vs.length then vs[i - o]? else c[i]?
  | [], c, o, _, i => by simp [putA]; omega
  | v :: r, c, o, h, i => by
    simp only [List.length_cons] at h
    rw [putA, putA_get r _ _ (by simp; omega) i]
    by_cases h1 : o + 1 ≤ i ∧ i < o + 1 + r.length
    · rw [if_pos h1, if_pos (by simp; omega)]
      rw [show i - o = (i - (o + 1)) + 1 by omega]
      simp
    · rw [if_neg h1]
      by_cases h2 : i = o
      · rw [if_pos (by simp; omega), h2, Array.getElem?_setIfInBounds_self_of_lt (by omega)]
        simp
      · rw [if_neg (by simp; omega), Array.getElem?_setIfInBounds_ne (Ne.symm h2)]

theorem putA_toList (vs : List Value) (c : Array Value) (o : Nat) (h : o + vs.length ≤ c.size) :
    (putA c o vs).toList = c.toList.take o ++ vs ++ c.toList.drop (o + vs.length) := by
  apply List.ext_getElem?
  intro i
  have := putA_get vs c o h i
  rw [Array.getElem?_toList, this]
  have l1 : (c.toList.take o).length = o := by simp; omega
  have l2 : (c.toList.take o ++ vs).length = o + vs.length := by simp; omega
  rw [List.getElem?_append, List.getElem?_append, l1, l2]
  by_cases h1 : i < o
  · rw [if_neg (by omega), if_pos (by omega), if_pos h1, List.getElem?_take, if_pos h1, Array.getElem?_toList]
  · by_cases h2 : i < o + vs.length
    · rw [if_pos (by omega), if_pos h2, if_neg h1]
    · rw [if_neg (by omega), if_neg h2, List.getElem?_drop, Array.getElem?_toList]
      congr 1; omega

theorem withBlock_twice (w : World) (b : Nat) (o o' : Obj) : World.withBlock (World.withBlock w b o) b o' = World.withBlock w b o' := by
  simp [World.withBlock]
theorem withBlock_self (w : World) (b : Nat) (o : Obj) (h : w.heap[b]? = some o) : World.withBlock w b o = w := by
  obtain ⟨hb, he⟩ := Array.getElem?_eq_some_iff.1 h
  have : w.heap.setIfInBounds b o = w.heap := by
    apply Array.ext_getElem?
    intro i
    by_cases e : i = b
    · subst e; rw [Array.getElem?_setIfInBounds_self_of_lt hb, h]
    · rw [Array.getElem?_setIfInBounds_ne (Ne.symm e)]
  unfold World.withBlock
  rw [this]

theorem setCell_block (w : World) (b o : Nat) (v : Value) {c : Array Value} {el : TypeId} {fr : Nat × Nat} (h : w.heap[b]? = some (.cells c el fr)) :
    w.setCell ⟨b, o, none⟩ v = World.withBlock w b (.cells (c.setIfInBounds o v) el fr) := by
  obtain ⟨hb, he⟩ := Array.getElem?_eq_some_iff.1 h
  unfold World.setCell World.withBlock
  congr 1
  apply Array.ext_getElem?
  intro i
  by_cases e : i = b
  · subst e
    rw [Array.getElem?_setIfInBounds_self_of_lt hb]
    simp [Array.getElem?_modify, h]
  · rw [Array.getElem?_setIfInBounds_ne (Ne.symm e)]
    simp [Array.getElem?_modify]
    intro e'
    exact absurd e'.symm e

theorem run_storeCells_block {b : Nat} {el : TypeId} {fr : Nat × Nat} : ∀ (vs : List Value) (o i : Nat) (c : Array Value) (w : World), w.heap[b]? = some (.cells c el fr) → NF fr c.size →
    o + i + vs.length ≤ c.size → (∀ v ∈ vs, v.oneCell' = true) →
    (storeCells ⟨b, o, none⟩ vs i).run P w = .ok () (World.withBlock w b (.cells (putA c (o + i) vs) el fr))
  | [], o, i, c, w, h, _, _, _ => by simp [storeCells, putA, withBlock_self w b _ h]
  | v :: r, o, i, c, w, h, nf, hl, h1 => by
    simp only [List.length_cons] at hl
    have hb := (Array.getElem?_eq_some_iff.1 h).1
    have hc : w.cell? ⟨b, o + i, none⟩ = some (c[o + i]'(by omega)) := by rw [cell?_of w b _ h]; simp
    have hf : w.frozen? ⟨b, o + i, none⟩ = false := by
      simp only [World.frozen?, h]
      have := nf (o + i) (by omega)
      simp only [Bool.and_eq_false_iff, decide_eq_false_iff_not]
      omega
    have hst : (store ((⟨b, o, none⟩ : Addr).add i) v).run P w = .ok () (World.withBlock w b (.cells (c.setIfInBounds (o + i) v) el fr)) := by
      rw [add_off, run_store P w _ v _ (h1 v (by simp))]
      simp only [hc, hf, Bool.false_eq_true, if_false]
      rw [setCell_block w b _ v h]
    have ih := run_storeCells_block r o (i + 1) (c.setIfInBounds (o + i) v) (World.withBlock w b (.cells (c.setIfInBounds (o + i) v) el fr))
      (withBlock_same _ _ _ hb) (by simpa using nf) (by simp; omega) (fun x hx => h1 x (by simp [hx]))
    simp only [storeCells, Sem.run_bind, hst, Result.andThen_ok, ih, withBlock_twice, putA]
    rw [show o + (i + 1) = o + i + 1 by omega]

theorem isCell_one {x : V} {v : Value} (hx : RV S w κ x v) (hc : x.isCell = true) : v.oneCell' = true := by
  cases x <;> simp [V.isCell] at hc <;> (try simp only [RV] at hx)
  case bool => subst hx; rfl
  case int => subst hx; rfl
  case str => subst hx; rfl
  case nilp => subst hx; rfl
  case ptr => obtain ⟨_, _, rfl⟩ := hx; rfl
  case eptr => obtain ⟨_, _, _, _, _, _, _, _, rfl, _⟩ := hx; rfl
  case iptr => obtain ⟨_, _, rfl, _⟩ := hx; rfl
  case nils => subst hx; rfl
  case arr => obtain ⟨_, _, rfl, _⟩ := hx; rfl
  case sl => obtain ⟨_, _, _, _, _, _, _, _, _, rfl, _⟩ := hx; rfl
  case nilm => subst hx; rfl
  case map => obtain ⟨_, _, rfl⟩ := hx; rfl
  case nilf => subst hx; rfl
  case fn f a c =>
    cases f <;> simp only [RV] at hx
    case yield => obtain ⟨_, _, rfl, _⟩ := hx; rfl
    all_goals (obtain ⟨_, _, rfl, _⟩ := hx; rfl)
  case nili => subst hx; rfl
  case ifc => obtain ⟨_, rfl, _⟩ := hx; rfl

theorem allCell_one : ∀ {xs : List V} {vs : List Value}, RL S w κ xs vs → xs.all V.isCell = true → ∀ v ∈ vs, v.oneCell' = true
  | [], [], _, _, v, hv => by simp at hv
  | [], _ :: _, h, _, _, _ => by simp [RL] at h
  | _ :: _, [], h, _, _, _ => by simp [RL] at h
  | x :: xs, u :: vs, h, hc, v, hv => by
    simp only [RL] at h
    simp only [List.all_cons, Bool.and_eq_true] at hc
    rcases List.mem_cons.1 hv with rfl | hv
    · exact isCell_one h.1 hc.1
    · exact allCell_one h.2 hc.2 v hv

theorem setRange_some {cs ys zs : List V} {off : Nat} (hh : setRange cs off ys = some zs) :
    off + ys.length ≤ cs.length ∧ zs = cs.take off ++ ys ++ cs.drop (off + ys.length) := by
  unfold setRange at hh
  obtain ⟨h1, h2⟩ := ite_some hh
  exact ⟨h1, h2.symm⟩

theorem drop_take_putA {c : Array Value} {vs : List Value} {o : Nat} (h : o + vs.length ≤ c.size) (p n : Nat) :
    (p + n ≤ o ∨ o + vs.length ≤ p) → ((putA c o vs).toList.drop p).take n = (c.toList.drop p).take n := by
  intro hp
  apply List.ext_getElem?
  intro i
  simp only [List.getElem?_take, List.getElem?_drop, Array.getElem?_toList]
  by_cases hi : i < n
  · rw [if_pos hi, if_pos hi, putA_get vs c o h, if_neg (by omega)]
  · rw [if_neg hi, if_neg hi]

theorem put_in {c : Array Value} {vs : List Value} {base off sz : Nat} (h : base + sz ≤ c.size) (h2 : off + vs.length ≤ sz) :
    ((putA c (base + off) vs).toList.drop base).take sz =
      ((c.toList.drop base).take sz).take off ++ vs ++ ((c.toList.drop base).take sz).drop (off + vs.length) := by
  apply List.ext_getElem?
  intro i
  have l0 : ((c.toList.drop base).take sz).length = sz := by simp; omega
  have l1 : (((c.toList.drop base).take sz).take off).length = off := by rw [List.length_take, l0]; omega
  have l2 : (((c.toList.drop base).take sz).take off ++ vs).length = off + vs.length := by rw [List.length_append, l1]
  rw [List.getElem?_append, List.getElem?_append, l1, l2]
  simp only [List.getElem?_take, List.getElem?_drop, Array.getElem?_toList]
  rw [putA_get vs c (base + off) (by omega)]
  by_cases hi : i < sz
  · rw [if_pos hi]
    by_cases h1 : i < off
    · rw [if_neg (by omega), if_pos (by omega), if_pos h1, if_pos h1, if_pos hi]
    · by_cases h3 : i < off + vs.length
      · rw [if_pos (by omega), if_pos h3, if_neg h1]
        congr 1; omega
      · rw [if_neg (by omega), if_neg h3, if_pos (by omega)]
        congr 1; omega
  · rw [if_neg hi, if_neg (by omega), if_neg (by omega)]

theorem store_sound (inv : Inv P B S w κ h) {t : TypeId} {n : Nat} (hn : sizeT P t = some n) {p x z : V} {u v : Value} {h' : Heap}
    (hp : RV S w κ p u) (hx : RV S w κ x v) (hh : evStoreV h n p x = some (z, h')) :
    ∃ w' κ', (Instr.storeAt t u v).run P w = .ok () w' ∧ z = V.non ∧ Inv P B S w' κ' h' ∧ Stp B S w κ S w' κ' := by
  unfold evStoreV at hh
  obtain ⟨⟨hlen, hall⟩, hq⟩ := ite_some' hh
  clear hh
  have hxu : x ≠ .undef := by
    rintro rfl
    simp [V.cells, V.isCell] at hall
  have hr := RV_cells hx hxu
  have hl := RL_length hr
  have hone := allCell_one hr hall
  have hvs : v.cells.size = n := by simpa [hlen] using hl.symm
  have hvl : v.cells.toList.length = n := by simpa using hvs
  unfold evStore at hq
  split at hq
  · rename_i id off
    split at hq
    · rename_i cs hi
      split at hq
      · rename_i cs' hset
        simp only [setOb_eq, Option.some.injEq, Prod.mk.injEq] at hq
        obtain ⟨rfl, rfl⟩ := hq
        obtain ⟨s1, rfl⟩ := setRange_some hset
        obtain ⟨b, c, el, fr, h1, h2, h3, h4, h5, h6⟩ := inv.obs _ _ hi
        simp only [RV] at hp
        obtain ⟨b', k1, rfl⟩ := hp
        rw [h1] at k1; cases k1
        have hcl := RL_length h4
        simp at hcl
        have hb := (Array.getElem?_eq_some_iff.1 h2).1
        have hfit : off + 0 + v.cells.toList.length ≤ c.size := by omega
        have hrun := run_storeCells_block (P := P) v.cells.toList off 0 c w h2 h3 hfit hone
        have hW := Inv.write inv h1 (.cells (putA c (off + 0) v.cells.toList) el fr) (.blk b) (.refl _) rfl
          (.cells (cs.take off ++ x.cells ++ cs.drop (off + x.cells.length))) (fun o hs => absurd hs (h6 o)) (fun sle kle => by
            refine ⟨b, _, el, fr, upd_same _ _ _, withBlock_same _ _ _ hb, by rw [putA_size]; exact h3, ?_, ?_, h6⟩
            · rw [putA_toList _ _ _ hfit]
              rw [show off + 0 = off by omega, hvl, hlen]
              exact RL_append (RL_append (RL_take _ (RL.mono sle kle _ _ h4)) (RL.mono sle kle _ _ hr)) (RL_drop _ (RL.mono sle kle _ _ h4))
            · simp only [List.all_append, Bool.and_eq_true]
              refine ⟨⟨?_, hall⟩, ?_⟩
              · exact List.all_eq_true.2 fun y hy => List.all_eq_true.1 h5 y (List.mem_of_mem_take hy)
              · exact List.all_eq_true.2 fun y hy => List.all_eq_true.1 h5 y (List.mem_of_mem_drop hy))
        refine ⟨_, _, ?_, rfl, hW.1, hW.2⟩
        simp [Instr.storeAt, Instr.sureAddr, storeVar, hvs, sizeT_run hn, hrun, Ko.block]
      · cases hq
    · cases hq
  · rename_i id ep idx off
    split at hq
    · rename_i sz xs cur hi
      obtain ⟨hep, h2'⟩ := ite_some' hq
      clear hq
      subst hep
      split at h2'
      · rename_i e he
        split at h2'
        · rename_i e' hset
          simp only [setOb_eq, Option.some.injEq, Prod.mk.injEq] at h2'
          obtain ⟨rfl, rfl⟩ := h2'
          obtain ⟨s1, rfl⟩ := setRange_some hset
          obtain ⟨b, st, cp, c, el, fr, g1, g2, g3, g4, g5, g6, g7, g8, g9, g10, g11⟩ := row_elem inv hi
          simp only [RV] at hp
          obtain ⟨ee, b', st', cp', sz', p, k1, k2, rfl, k3⟩ := hp
          rw [g1] at k1; cases k1
          obtain ⟨k4, rfl⟩ := k3 rfl
          have hb := (Array.getElem?_eq_some_iff.1 g2).1
          have hel := (g8 e (List.mem_of_getElem? he)).1
          have hil : idx < xs.length := (List.getElem?_eq_some_iff.1 he).1
          have hbound : (idx - st) * sz + sz ≤ c.size := by
            rw [g5, ← Nat.succ_mul]
            exact Nat.mul_le_mul_right _ (by omega)
          have hfit : (idx - st) * sz + off + 0 + v.cells.toList.length ≤ c.size := by omega
          have hrun := run_storeCells_block (P := P) v.cells.toList ((idx - st) * sz + off) 0 c w g2 g3.1 hfit hone
          have hns := g11 rfl
          have hW := Inv.write inv g1 (.cells (putA c ((idx - st) * sz + off + 0) v.cells.toList) el fr) (.row ep b st cp sz) (.refl _) rfl
            (.row sz (xs.set idx (e.take off ++ x.cells ++ e.drop (off + x.cells.length))) ep true) (fun o hs => absurd hs (hns o)) (fun sle kle => by
              refine ⟨b, st, cp, _, el, fr, upd_same _ _ _, withBlock_same _ _ _ hb, by rw [putA_size]; exact g3, g4, by rw [putA_size]; exact g5,
                by simpa using g6, by simpa using g7, ?_, ?_, by simpa using g10, fun _ => hns⟩
              · intro y hy
                rcases List.mem_or_eq_of_mem_set hy with hy | rfl
                · exact g8 y hy
                · refine ⟨by simp; omega, ?_⟩
                  have ha := (g8 e (List.mem_of_getElem? he)).2
                  simp only [List.all_append, Bool.and_eq_true]
                  refine ⟨⟨?_, hall⟩, ?_⟩
                  · exact List.all_eq_true.2 fun y hy => List.all_eq_true.1 ha y (List.mem_of_mem_take hy)
                  · exact List.all_eq_true.2 fun y hy => List.all_eq_true.1 ha y (List.mem_of_mem_drop hy)
              · intro i y hi' hy
                by_cases hii : i = idx
                · subst hii
                  rw [List.getElem?_set_self hil] at hy
                  cases hy
                  have hold := RL.mono sle kle _ _ (g9 i e k4 he)
                  rw [Nat.add_zero, put_in hbound (by omega), hvl, hlen]
                  exact RL_append (RL_append (RL_take _ hold) (RL.mono sle kle _ _ hr)) (RL_drop _ hold)
                · rw [List.getElem?_set_ne (Ne.symm hii)] at hy
                  have hold := g9 i y hi' hy
                  rw [drop_take_putA hfit]
                  · exact RL.mono sle kle _ _ hold
                  · rcases Nat.lt_or_ge i idx with hlt | hge
                    · left
                      have : (i - st + 1) * sz ≤ (idx - st) * sz := Nat.mul_le_mul_right _ (by omega)
                      rw [Nat.succ_mul] at this
                      omega
                    · right
                      have : (idx - st + 1) * sz ≤ (i - st) * sz := Nat.mul_le_mul_right _ (by omega)
                      rw [Nat.succ_mul] at this
                      omega)
          refine ⟨_, _, ?_, rfl, hW.1, hW.2⟩
          simp [Instr.storeAt, Instr.sureAddr, storeVar, hvs, sizeT_run hn, hrun, Ko.block]
        · cases h2'
      · cases h2'
    · cases hq
  · cases hq

end
end Go.Ev

namespace Go.Ev
open Go.RowKit
set_option linter.unusedVariables false
set_option linter.unusedSectionVars false
set_option linter.unusedSimpArgs false

section
variable {P : Program} {B : Nat} {S : Cells} {w : World} {κ : Kap} {h : Heap}

theorem NF_zero (n : Nat) : NF (0, 0) n := fun o _ x => by simp at x

theorem ofCell_isCell {v : Value} {x : V} (hh : ofCell v = some x) : x.isCell = true := by
  unfold ofCell at hh
  split at hh
  case h_9 =>
    split at hh
    · cases hh; rfl
    · cases hh
  all_goals (cases hh <;> rfl)

theorem ofCellList_isCell : ∀ {vs : List Value} {xs : List V}, ofCellList vs = some xs → xs.all V.isCell = true
  | [], xs, hh => by simp [ofCellList] at hh; subst hh; rfl
  | v :: vs, xs, hh => by
    unfold ofCellList at hh
    split at hh
    · rename_i x xs' h1 h2
      cases hh
      simp [ofCell_isCell h1, ofCellList_isCell h2]
    · cases hh

theorem ofConst_cells {v : Value} {x : V} (hh : ofConst v = some x) : RL S w κ x.cells v.cells.toList ∧ x.cells.all V.isCell = true := by
  refine ⟨RV_cells (ofConst_sound hh) ?_, ?_⟩
  · rintro rfl
    unfold ofConst at hh
    split at hh
    · simp at hh
    · have := ofCell_isCell hh; simp [V.isCell] at this
  · unfold ofConst at hh
    split at hh
    · simp only [Option.map_eq_some_iff] at hh
      obtain ⟨l, hl, rfl⟩ := hh
      exact ofCellList_isCell hl
    · have := ofCell_isCell hh
      cases x <;> simp_all [V.cells, V.isCell]

theorem zeroT_run {t : TypeId} {z : V} (hh : zeroT P t = some z) : ∃ v, ofConst v = some z ∧ ∀ w', (zeroValue t).run P w' = .ok v w' := by
  unfold zeroT at hh
  simp only [Option.bind_eq_some_iff] at hh
  obtain ⟨i, hi, v, hv, hz⟩ := hh
  exact ⟨v, hz, fun w' => by simp [zeroValue, typeInfo, hi, hv]⟩

theorem elemT_run {t : TypeId} {p : Nat × Nat × List V} (hh : elemT P t = some p) :
    ∃ i v z, P.info? t = some i ∧ i.zero = some v ∧ ofConst v = some z ∧ p = (i.size, i.bytes, z.cells) ∧ i.size ≠ 0 ∧ i.bytes ≠ 0 ∧ v.cells.size = i.size ∧
      (∀ w', (zeroValue t).run P w' = .ok v w') ∧ (∀ w', (sizeOf t).run P w' = .ok i.size w') ∧ (∀ w', (typeInfo t).run P w' = .ok i w') := by
  unfold elemT at hh
  split at hh
  · rename_i i hi
    split at hh
    · rename_i v hv
      split at hh
      · rename_i z hz
        obtain ⟨hc, rfl⟩ := ite_some hh
        exact ⟨i, v, z, hi, hv, hz, rfl, hc.1, hc.2.1, hc.2.2, fun w' => by simp [zeroValue, typeInfo, hi, hv], fun w' => by simp [sizeOf, typeInfo, hi], fun w' => by simp [typeInfo, hi]⟩
      · cases hh
    · cases hh
  · cases hh

theorem noK_new (inv : Inv P B S w κ h) : κ h.length = none := by
  cases hk : κ h.length with
  | none => rfl
  | some k => exact absurd (inv.dom _ _ hk).1 (by omega)

/-- A new variable. -/
theorem fresh_cells (inv : Inv P B S w κ h) {cs : List V} {c : Array Value} (el : TypeId) (hr : RL S w κ cs c.toList) (hc : cs.all V.isCell = true) :
    Inv P B S (w.alloc (.cells c el)) (upd κ h.length (.blk w.heap.size)) (h ++ [.cells cs]) ∧
    Stp B S w κ S (w.alloc (.cells c el)) (upd κ h.length (.blk w.heap.size)) ∧
    RV S (w.alloc (.cells c el)) (upd κ h.length (.blk w.heap.size)) (.ptr h.length 0) (.pointer (some ⟨w.heap.size, 0, none⟩)) := by
  have := Inv.fresh inv h.length (Nat.le_refl _) (.cells c el) (.blk w.heap.size) (fun k hk => by rw [noK_new inv] at hk; cases hk) rfl (h ++ [.cells cs])
    (fun i o hi ho => by
      rw [List.getElem?_append] at ho
      split at ho
      · exact ho
      · rename_i hge
        rw [List.getElem?_eq_none (by simp; omega)] at ho
        cases ho)
    (by simp) (by simp) (fun sle kle o ho => by
      simp at ho
      subst ho
      refine ⟨w.heap.size, c, el, (0, 0), upd_same _ _ _, alloc_last _ _, NF_zero _, RL.mono sle kle _ _ hr, hc, fun o ho => ?_⟩
      exact absurd (inv.sb _ _ ho) (by omega))
  refine ⟨this.1, this.2, ?_⟩
  simp only [RV]
  exact ⟨_, upd_same _ _ _, rfl⟩

/-- A new row. -/
theorem fresh_row (inv : Inv P B S w κ h) {xs : List (List V)} {c : Array Value} (el : TypeId) (cp sz : Nat) (h0 : 0 < sz) (hsz : c.size = cp * sz) (hl : xs.length ≤ cp)
    (hx : ∀ e ∈ xs, e.length = sz ∧ e.all V.isCell = true) (hr : RR S w κ xs 0 sz c.toList) :
    Inv P B S (w.alloc (.cells c el)) (upd κ h.length (.row 0 w.heap.size 0 cp sz)) (h ++ [.row sz xs 0 true]) ∧
    Stp B S w κ S (w.alloc (.cells c el)) (upd κ h.length (.row 0 w.heap.size 0 cp sz)) ∧
    RV S (w.alloc (.cells c el)) (upd κ h.length (.row 0 w.heap.size 0 cp sz)) (.sl h.length 0 0 xs.length) (.slice (some ⟨w.heap.size, 0, none⟩) xs.length cp) := by
  have := Inv.fresh inv h.length (Nat.le_refl _) (.cells c el) (.row 0 w.heap.size 0 cp sz) (fun k hk => by rw [noK_new inv] at hk; cases hk) rfl (h ++ [.row sz xs 0 true])
    (fun i o hi ho => by
      rw [List.getElem?_append] at ho
      split at ho
      · exact ho
      · rename_i hge
        rw [List.getElem?_eq_none (by simp; omega)] at ho
        cases ho)
    (by simp) (by simp) (fun sle kle o ho => by
      simp at ho
      subst ho
      refine ⟨w.heap.size, 0, cp, c, el, (0, 0), upd_same _ _ _, alloc_last _ _, ⟨NF_zero _, fun _ => NF_zero _⟩, h0, hsz, by omega, by omega, hx,
        fun i e hi he => RL.mono sle kle _ _ (hr i e hi he), fun o _ ho => ?_, fun _ o ho => ?_⟩
      all_goals exact absurd (inv.sb _ _ ho) (by omega))
  refine ⟨this.1, this.2, ?_⟩
  simp only [RV]
  exact ⟨0, _, 0, cp, sz, _, _, upd_same _ _ _, Nat.le_refl _, rfl, hl, fun _ => ⟨by omega, by omega, by omega, .inr (by simp)⟩⟩

theorem Good.ret {x : V} {s : Sem Value} {h' : Heap} (hs : ∃ v w' S' κ', s.run P w = .ok v w' ∧ Inv P B S' w' κ' h' ∧ Stp B S w κ S' w' κ' ∧ RV S' w' κ' x v) :
    Good P B S w κ h' x (do pure (.value (← s))) :=
  let ⟨v, w', S', κ', hr, a, b, c⟩ := hs
  ⟨v, w', S', κ', .inl (by simp [hr]), a, b, c⟩

theorem alloc_sound (inv : Inv P B S w κ h) {t : TypeId} {z : V} (hz : zeroT P t = some z) :
    ∃ v w' S' κ', (Instr.alloc t true (.tuple #[])).run P w = .ok v w' ∧ Inv P B S' w' κ' (h ++ [.cells z.cells]) ∧ Stp B S w κ S' w' κ' ∧ RV S' w' κ' (.ptr h.length 0) v := by
  obtain ⟨v, hv, hrun⟩ := zeroT_run hz
  obtain ⟨hr, hc⟩ := ofConst_cells (S := S) (w := w) (κ := κ) hv
  obtain ⟨a, b, c⟩ := fresh_cells inv t hr hc
  exact ⟨_, _, _, _, by simp [Instr.alloc, hrun, newVar, newRow], a, b, c⟩

theorem box_sound (inv : Inv P B S w κ h) {t : TypeId} {x z : V} {u : Value} {h' : Heap} (hx : RV S w κ x u) (hh : evBox h x.cells = some (z, h')) :
    ∃ v w' S' κ', (Instr.box t u).run P w = .ok v w' ∧ Inv P B S' w' κ' h' ∧ Stp B S w κ S' w' κ' ∧ RV S' w' κ' z v := by
  unfold evBox at hh
  obtain ⟨hc, h1⟩ := ite_some' hh
  simp only [newOb_eq, Option.some.injEq, Prod.mk.injEq] at h1
  obtain ⟨rfl, rfl⟩ := h1
  have hxu : x ≠ .undef := by rintro rfl; simp [V.cells, V.isCell] at hc
  obtain ⟨a, b, c⟩ := fresh_cells inv t (RV_cells hx hxu) hc
  exact ⟨_, _, _, _, by simp [Instr.box, newVar, newRow], a, b, c⟩
end
end Go.Ev

namespace Go.Ev
open Go.RowKit
set_option linter.unusedVariables false
set_option linter.unusedSectionVars false
set_option linter.unusedSimpArgs false

section
variable {P : Program} {B : Nat} {S : Cells} {w : World} {κ : Kap} {h : Heap}

theorem fold_putA : ∀ (l : List Value) (i off : Nat) (cells : Array Value),
    (l.zipIdx i).foldl (fun cs (p : Value × Nat) => cs.setIfInBounds (off + p.2) p.1) cells = putA cells (off + i) l
  | [], _, _, _ => rfl
  | v :: r, i, off, cells => by
    simp only [List.zipIdx_cons, List.foldl_cons, putA]
    rw [fold_putA r (i + 1) off]
    rfl

theorem zipIdx_fold (a : Array Value) (off : Nat) (cells : Array Value) :
    a.zipIdx.foldl (fun cs (c, j) => cs.setIfInBounds (off + j) c) cells = putA cells off a.toList := by
  have := fold_putA a.toList 0 off cells
  rw [Nat.add_zero] at this
  rw [← this, ← Array.foldl_toList, Array.toList_zipIdx]

/-- Parts in their places. -/
theorem placeParts_sound (place : Nat → Option (Nat × Nat)) : ∀ (ps : List (Nat × Nat × V)) (us : List (Nat × Value)) (cs : List V) (c : Array Value) (zs : List V),
    us.length = ps.length → (∀ (i : Nat) (p : Nat × Nat × V) (q : Nat × Value), ps[i]? = some p → us[i]? = some q → place q.1 = some (p.1, p.2.1) ∧ RV S w κ p.2.2 q.2) →
    RL S w κ cs c.toList → cs.all V.isCell = true → placeParts cs ps = some zs →
    ∃ c', Instr.fill place c us = some c' ∧ RL S w κ zs c'.toList ∧ zs.all V.isCell = true ∧ zs.length = cs.length
  | [], [], cs, c, zs, _, _, hr, hc, hp => by
    simp only [placeParts, Option.some.injEq] at hp
    subst hp
    exact ⟨c, rfl, hr, hc, rfl⟩
  | [], _ :: _, _, _, _, hl, _, _, _, _ => by simp at hl
  | _ :: _, [], _, _, _, hl, _, _, _, _ => by simp at hl
  | (off, sz, v) :: ps, (i, u) :: us, cs, c, zs, hl, hps, hr, hc, hp => by
    simp only [placeParts] at hp
    obtain ⟨⟨h1, h2⟩, h3⟩ := ite_some' hp
    split at h3
    · rename_i cs' hset
      obtain ⟨s1, rfl⟩ := setRange_some hset
      obtain ⟨hpl, hv⟩ := hps 0 _ _ rfl rfl
      have hvu : v ≠ .undef := by rintro rfl; simp [V.cells, V.isCell] at h2
      have hrv := RV_cells hv hvu
      have hlv := RL_length hrv
      have hcl := RL_length hr
      simp only [Array.length_toList] at hlv hcl
      have hfit : off + u.cells.toList.length ≤ c.size := by simp; omega
      have hr' : RL S w κ (cs.take off ++ v.cells ++ cs.drop (off + v.cells.length)) (putA c off u.cells.toList).toList := by
        rw [putA_toList _ _ _ hfit]
        rw [show u.cells.toList.length = v.cells.length by simp; omega]
        exact RL_append (RL_append (RL_take _ hr) hrv) (RL_drop _ hr)
      have hc' : (cs.take off ++ v.cells ++ cs.drop (off + v.cells.length)).all V.isCell = true := by
        simp only [List.all_append, Bool.and_eq_true]
        refine ⟨⟨?_, h2⟩, ?_⟩
        · exact List.all_eq_true.2 fun y hy => List.all_eq_true.1 hc y (List.mem_of_mem_take hy)
        · exact List.all_eq_true.2 fun y hy => List.all_eq_true.1 hc y (List.mem_of_mem_drop hy)
      obtain ⟨c', f1, f2, f3, f4⟩ := placeParts_sound place ps us _ _ zs (by simpa using hl) (fun j p q hp hq => hps (j + 1) p q (by simpa using hp) (by simpa using hq)) hr' hc' h3
      refine ⟨c', ?_, f2, f3, by rw [f4]; simp; omega⟩
      simp only [Instr.fill, hpl]
      rw [if_neg (by simp; omega)]
      rw [zipIdx_fold]
      exact f1
    · cases h3

theorem mapM_some {α β : Type} (f : α → Option β) : ∀ (l : List α) (r : List β), l.mapM f = some r → r.length = l.length ∧ ∀ (i : Nat) (a : α) (b : β), l[i]? = some a → r[i]? = some b → f a = some b
  | [], r, hh => by
    simp at hh; subst hh
    exact ⟨rfl, fun i a b ha => by simp at ha⟩
  | x :: l, r, hh => by
    simp only [List.mapM_cons, Option.bind_eq_bind, Option.bind_eq_some_iff, Option.pure_def, Option.some.injEq] at hh
    obtain ⟨y, hy, r', hr', rfl⟩ := hh
    obtain ⟨h1, h2⟩ := mapM_some f l r' hr'
    refine ⟨by simp [h1], fun i a b ha hb => ?_⟩
    cases i with
    | zero => simp at ha hb; subst ha; subst hb; exact hy
    | succ i => simp at ha hb; exact h2 i a b ha hb

theorem flat_rep_get (z : List Value) : ∀ (n i : Nat), i < n * z.length → (List.replicate n z).flatten[i]? = z[i % z.length]?
  | 0, i, hi => by simp at hi
  | n + 1, i, hi => by
    rw [List.replicate_succ, List.flatten_cons, List.getElem?_append]
    split
    · rename_i hlt; rw [Nat.mod_eq_of_lt hlt]
    · rename_i hge
      rw [flat_rep_get z n (i - z.length) (by rw [Nat.succ_mul] at hi; omega)]
      rw [Nat.mod_eq_sub_mod (a := i) (by omega)]

theorem zero_fill (z : Array Value) (n s : Nat) (hs : z.size = s) (h0 : s ≠ 0) :
    ((Array.range (n * s)).map (z[· % z.size]!)).toList = (List.replicate n z.toList).flatten := by
  apply List.ext_getElem?
  intro i
  simp only [Array.toList_map, Array.toList_range, List.getElem?_map, List.getElem?_range']
  by_cases hi : i < n * s
  · rw [flat_rep_get z.toList n i (by simpa [hs] using hi)]
    have : i % z.size < z.size := Nat.mod_lt _ (by omega)
    simp [List.getElem?_range hi, this, getElem!_pos]
  · have : (List.replicate n z.toList).flatten.length ≤ i := by simp [hs]; omega
    rw [List.getElem?_eq_none this, List.getElem?_eq_none (by simp; omega)]
    rfl

theorem RL_flat_rep {z : List V} {c : List Value} (hr : RL S w κ z c) : ∀ n, RL S w κ (List.replicate n z).flatten (List.replicate n c).flatten
  | 0 => by simp [RL]
  | n + 1 => by
    simp only [List.replicate_succ, List.flatten_cons]
    exact RL_append hr (RL_flat_rep hr n)

/-- Flat cells, row by row. -/
theorem chunks_length (sz : Nat) : ∀ (n : Nat) (cs : List V), (chunks sz n cs).length = n
  | 0, _ => rfl
  | n + 1, cs => by simp [chunks, chunks_length sz n]
theorem chunks_get (sz : Nat) : ∀ (n : Nat) (cs : List V) (i : Nat), i < n → (chunks sz n cs)[i]? = some ((cs.drop (i * sz)).take sz)
  | 0, _, _, hi => by omega
  | n + 1, cs, i, hi => by
    cases i with
    | zero => simp [chunks]
    | succ i =>
      simp only [chunks, List.getElem?_cons_succ]
      rw [chunks_get sz n _ i (by omega), List.drop_drop, Nat.succ_mul, Nat.add_comm]

theorem RR_chunks {cs : List V} {c : List Value} (hr : RL S w κ cs c) (sz n : Nat) : RR S w κ (chunks sz n cs) 0 sz c := by
  intro i e _ he
  have hi : i < n := by
    have := (List.getElem?_eq_some_iff.1 he).1
    rwa [chunks_length] at this
  rw [chunks_get sz n cs i hi] at he
  cases he
  exact RL_take _ (RL_drop _ hr)

theorem chunks_mem {cs : List V} {sz n : Nat} (hl : cs.length = n * sz) (hc : cs.all V.isCell = true) : ∀ e ∈ chunks sz n cs, e.length = sz ∧ e.all V.isCell = true := by
  intro e he
  obtain ⟨i, hi, rfl⟩ := List.getElem_of_mem he
  have hin : i < n := by rwa [chunks_length] at hi
  have := chunks_get sz n cs i hin
  rw [List.getElem?_eq_getElem hi] at this
  simp only [Option.some.injEq] at this
  rw [this]
  refine ⟨?_, ?_⟩
  · have : (i + 1) * sz ≤ n * sz := Nat.mul_le_mul_right _ hin
    rw [Nat.succ_mul] at this
    simp; omega
  · exact List.all_eq_true.2 fun y hy => List.all_eq_true.1 hc y (List.mem_of_mem_drop (List.mem_of_mem_take hy))
end
end Go.Ev

namespace Go.Ev
open Go.RowKit
set_option linter.unusedVariables false
set_option linter.unusedSectionVars false
set_option linter.unusedSimpArgs false

section
variable {P : Program} {B : Nat} {S : Cells} {w : World} {κ : Kap} {h : Heap}

theorem mapM_run {α β : Type} (f : α → Sem β) (g : α → β) (w' : World) : ∀ (l : List α), (∀ a ∈ l, (f a).run P w' = .ok (g a) w') → (l.mapM f).run P w' = .ok (l.map g) w'
  | [], _ => by simp
  | a :: l, hh => by
    simp only [List.mapM_cons, Sem.run_bind, hh a (by simp), Result.andThen_ok, mapM_run f g w' l (fun x hx => hh x (by simp [hx]))]
    simp

theorem places_run (fs : Array Field) (hf : ∀ f ∈ fs, (sizeT P f.type).isSome = true) (w' : World) :
    (fs.mapM (fun f => (do pure (f.offset, ← sizeOf f.type) : Sem (Nat × Nat)))).run P w' = .ok (fs.map fun f => (f.offset, (sizeT P f.type).getD 0)) w' := by
  rw [Array.mapM_eq_mapM_toList, Sem.run_map]
  rw [mapM_run (P := P) _ (fun f => (f.offset, (sizeT P f.type).getD 0)) w' fs.toList]
  · simp only [Result.andThen_ok]
    congr 1
    apply Array.ext'
    simp
  · intro f hmem
    obtain ⟨n, hn⟩ := Option.isSome_iff_exists.1 (hf f (by simpa using hmem))
    simp [sizeT_run hn, hn]

theorem evBuild_some {z : List V} {ps : List (Nat × Nat × V)} {x : V} {h' : Heap} (hh : evBuild h z ps = some (x, h')) :
    ∃ cs, placeParts z ps = some cs ∧ x = .agg cs ∧ h' = h := by
  unfold evBuild at hh
  split at hh
  · rename_i cs hc
    simp only [fS_eq, Option.some.injEq, Prod.mk.injEq] at hh
    exact ⟨cs, hc, hh.1.symm, hh.2.symm⟩
  · cases hh

theorem build_struct_sound {env : List V} {a : Act} (hr : RL S w κ env a.tmps.toList) {t : TypeId} {fs : Array Field} {z : List V} {parts : Array (Nat × Operand)} {l : List (Nat × Nat × Od)}
    (ht : P.underlying t = some (.struct fs)) (hz : zeroT P t = some (.agg z)) (hf : fs.all (fun f => (sizeT P f.type).isSome) = true)
    (hl : parts.toList.mapM (fun (p : Nat × Operand) =>
        match fs[p.1]?, cOd p.2 with
        | some f, some x => (sizeT P f.type).map fun s => (f.offset, s, x)
        | _, _ => none) = some l) {x : V} {h' : Heap} (hh : evBuild h z (l.map fun p => (p.1, p.2.1, p.2.2.ev env)) = some (x, h')) :
    h' = h ∧ ∃ v, RV S w κ x v ∧ ∀ w', (Instr.build t (parts.map fun (i, x) => (i, a.eval x))).run P w' = .ok v w' := by
  obtain ⟨cs, hp, rfl, rfl⟩ := evBuild_some hh
  obtain ⟨v, hv, hrun⟩ := zeroT_run hz
  obtain ⟨hrz, hcz⟩ := ofConst_cells (S := S) (w := w) (κ := κ) hv
  obtain ⟨m1, m2⟩ := mapM_some _ _ _ hl
  obtain ⟨c', f1, f2, f3, f4⟩ := placeParts_sound (S := S) (w := w) (κ := κ) (fun i => (fs.map fun f => (f.offset, (sizeT P f.type).getD 0))[i]?) _
    (parts.toList.map fun p => (p.1, a.eval p.2)) z v.cells cs (by simpa using m1.symm) (by
      intro i p q hp hq
      simp only [List.getElem?_map, Option.map_eq_some_iff] at hp hq
      obtain ⟨p', hp', rfl⟩ := hp
      obtain ⟨q', hq', rfl⟩ := hq
      have := m2 i q' p' hq' hp'
      split at this
      · rename_i f y hf' hy
        simp only [Option.map_eq_some_iff] at this
        obtain ⟨s, hs, rfl⟩ := this
        refine ⟨?_, od_sound hr hy⟩
        simp [hf', hs]
      · cases this) hrz hcz hp
  refine ⟨rfl, .agg c', ?_, fun w' => ?_⟩
  · simp only [RV]; exact ⟨_, rfl, f2⟩
  · have hpl := places_run (P := P) fs (fun f hm => (Array.all_eq_true_iff_forall_mem.1 hf) f hm) w'
    simp only [Instr.build, Sem.run_bind, hrun, Result.andThen_ok, run_underlying ht, hpl]
    have e : (parts.map fun (p : Nat × Operand) => (p.1, a.eval p.2)).toList = parts.toList.map fun p => (p.1, a.eval p.2) := by simp
    rw [show (fun (x : Nat × Operand) => match x with | (i, x) => (i, a.eval x)) = fun p => (p.1, a.eval p.2) from rfl, e, f1]
    rfl

theorem build_array_sound {env : List V} {a : Act} (hr : RL S w κ env a.tmps.toList) {t e : TypeId} {n s : Nat} {z : List V} {parts : Array (Nat × Operand)} {l : List (Nat × Nat × Od)}
    (ht : P.underlying t = some (.array n e)) (hz : zeroT P t = some (.agg z)) (hs : sizeT P e = some s)
    (hl : parts.toList.mapM (fun (p : Nat × Operand) => (cOd p.2).map fun x => (p.1 * s, s, x)) = some l)
    {x : V} {h' : Heap} (hh : evBuild h z (l.map fun p => (p.1, p.2.1, p.2.2.ev env)) = some (x, h')) :
    h' = h ∧ ∃ v, RV S w κ x v ∧ ∀ w', (Instr.build t (parts.map fun (i, x) => (i, a.eval x))).run P w' = .ok v w' := by
  obtain ⟨cs, hp, rfl, rfl⟩ := evBuild_some hh
  obtain ⟨v, hv, hrun⟩ := zeroT_run hz
  obtain ⟨hrz, hcz⟩ := ofConst_cells (S := S) (w := w) (κ := κ) hv
  obtain ⟨m1, m2⟩ := mapM_some _ _ _ hl
  obtain ⟨c', f1, f2, f3, f4⟩ := placeParts_sound (S := S) (w := w) (κ := κ) (fun i => some (i * s, s)) _
    (parts.toList.map fun p => (p.1, a.eval p.2)) z v.cells cs (by simpa using m1.symm) (by
      intro i p q hp hq
      simp only [List.getElem?_map, Option.map_eq_some_iff] at hp hq
      obtain ⟨p', hp', rfl⟩ := hp
      obtain ⟨q', hq', rfl⟩ := hq
      have := m2 i q' p' hq' hp'
      simp only [Option.map_eq_some_iff] at this
      obtain ⟨y, hy, rfl⟩ := this
      exact ⟨rfl, od_sound hr hy⟩) hrz hcz hp
  refine ⟨rfl, .agg c', ?_, fun w' => ?_⟩
  · simp only [RV]; exact ⟨_, rfl, f2⟩
  · simp only [Instr.build, Sem.run_bind, hrun, Result.andThen_ok, run_underlying ht, sizeT_run hs]
    have e : (parts.map fun (p : Nat × Operand) => (p.1, a.eval p.2)).toList = parts.toList.map fun p => (p.1, a.eval p.2) := by simp
    rw [show (fun (x : Nat × Operand) => match x with | (i, x) => (i, a.eval x)) = fun p => (p.1, a.eval p.2) from rfl, e, f1]
    rfl

theorem bslice_sound (inv : Inv P B S w κ h) {env : List V} {a : Act} (hr : RL S w κ env a.tmps.toList) {t e : TypeId} {len : Nat} {q : Nat × Nat × List V} {parts : Array (Nat × Operand)} {l : List (Nat × Od)}
    (ht : P.underlying t = some (.slice e)) (hq : elemT P e = some q) (hsz : ¬ len * q.1 > 2 ^ 24)
    (hl : parts.toList.mapM (fun (p : Nat × Operand) => (cOd p.2).map fun x => (p.1, x)) = some l)
    {x : V} {h' : Heap} (hh : evBslice h q.2.2 len q.1 (l.map fun p => (p.1, p.2.ev env)) = some (x, h')) :
    ∃ v w' S' κ', (Instr.buildSlice t len (parts.map fun (i, x) => (i, a.eval x))).run P w = .ok v w' ∧ Inv P B S' w' κ' h' ∧ Stp B S w κ S' w' κ' ∧ RV S' w' κ' x v := by
  obtain ⟨i, v, z, hi, hv, hz, rfl, n1, n2, n3, r1, r2, r3⟩ := elemT_run hq
  obtain ⟨hrz, hcz⟩ := ofConst_cells (S := S) (w := w) (κ := κ) hz
  unfold evBslice at hh
  split at hh
  · rename_i cs hp
    simp only [newOb_eq, Option.some.injEq, Prod.mk.injEq] at hh
    obtain ⟨rfl, rfl⟩ := hh
    obtain ⟨m1, m2⟩ := mapM_some _ _ _ hl
    have hlz := RL_length hrz
    simp only [Array.length_toList] at hlz
    have hcells : RL S w κ (List.replicate len z.cells).flatten ((Array.range (len * i.size)).map (v.cells[· % v.cells.size]!)).toList := by
      rw [zero_fill v.cells len i.size n3 n1]
      exact RL_flat_rep hrz len
    have hall : (List.replicate len z.cells).flatten.all V.isCell = true := by
      apply List.all_eq_true.2
      intro y hy
      simp only [List.mem_flatten, List.mem_replicate] at hy
      obtain ⟨l', ⟨_, rfl⟩, hy⟩ := hy
      exact List.all_eq_true.1 hcz y hy
    obtain ⟨c', f1, f2, f3, f4⟩ := placeParts_sound (S := S) (w := w) (κ := κ) (fun j => some (j * i.size, i.size)) _
      (parts.toList.map fun p => (p.1, a.eval p.2)) _ _ cs (by simpa using m1.symm) (by
        intro j p q hp hq
        simp only [List.getElem?_map, List.map_map, Option.map_eq_some_iff] at hp hq
        obtain ⟨p', hp', rfl⟩ := hp
        obtain ⟨q', hq', rfl⟩ := hq
        have := m2 j q' p' hq' hp'
        simp only [Option.map_eq_some_iff] at this
        obtain ⟨y, hy, rfl⟩ := this
        exact ⟨rfl, od_sound hr hy⟩) hcells hall hp
    have hlen : cs.length = len * i.size := by
      rw [f4]; simp; rw [hlz, n3]
    have hc'size : c'.size = len * i.size := by
      have := RL_length f2
      simp only [Array.length_toList] at this
      omega
    obtain ⟨g1, g2, g3⟩ := fresh_row inv e len i.size (by omega) hc'size (by rw [chunks_length]; exact Nat.le_refl _) (chunks_mem hlen f3) (RR_chunks f2 i.size len)
    rw [chunks_length] at g3
    refine ⟨_, _, _, _, ?_, g1, g2, g3⟩
    have e' : (parts.map fun (p : Nat × Operand) => (p.1, a.eval p.2)).toList = parts.toList.map fun p => (p.1, a.eval p.2) := by simp
    have hsz' : ¬ (len * i.size > 2 ^ 24) := hsz
    simp only [Instr.buildSlice, Sem.run_bind, run_underlying ht, Result.andThen_ok, r2, if_neg hsz']
    rw [show (fun (x : Nat × Operand) => match x with | (i, x) => (i, a.eval x)) = fun p => (p.1, a.eval p.2) from rfl]
    by_cases h0 : len * i.size = 0
    · have e4 : Array.map (fun x => (#[] : Array Value)[x % (#[] : Array Value).size]!) (Array.range (len * i.size)) = Array.map (fun x => v.cells[x % v.cells.size]!) (Array.range (len * i.size)) := by simp [h0]
      rw [if_pos h0]
      simp only [Sem.run_bind, Sem.run_pure, Result.andThen_ok]
      rw [e4, e', f1]
      rfl
    · rw [if_neg h0]
      simp only [Sem.run_bind, Sem.run_pure, Result.andThen_ok, r1]
      rw [e', f1]
      rfl
  · cases hh

theorem mks_sound (inv : Inv P B S w κ h) {t e : TypeId} {q : Nat × Nat × List V} (ht : P.underlying t = some (.slice e)) (hq : elemT P e = some q)
    {x y z : V} {u v : Value} {h' : Heap} (hx : RV S w κ x u) (hy : RV S w κ y v) (hh : evMks h q.2.2 q.1 q.2.1 x y = some (z, h')) :
    ∃ r w' S' κ', (Instr.makeSlice t u v).run P w = .ok r w' ∧ Inv P B S' w' κ' h' ∧ Stp B S w κ S' w' κ' ∧ RV S' w' κ' z r := by
  obtain ⟨i, zv, z0, hi, hv, hz, rfl, n1, n2, n3, r1, r2, r3⟩ := elemT_run hq
  obtain ⟨hrz, hcz⟩ := ofConst_cells (S := S) (w := w) (κ := κ) hz
  have hlz := RL_length hrz
  simp only [Array.length_toList] at hlz
  unfold evMks at hh
  split at hh
  · rename_i k n
    split at hh
    · rename_i k' m
      simp only [RV] at hx hy
      subst hx; subst hy
      obtain ⟨⟨c1, c2, c3⟩, h1⟩ := ite_some' hh
      simp only [fNat_eq, newOb_eq, Option.some.injEq, Prod.mk.injEq] at h1
      obtain ⟨rfl, rfl⟩ := h1
      have hroom : m * i.bytes ≤ 140737488355328 := c3
      have hb1 : (1 : Int) ≤ i.bytes := by omega
      have hm : m ≤ 140737488355328 := by
        have : m * 1 ≤ m * i.bytes := Int.mul_le_mul_of_nonneg_left hb1 (by omega)
        omega
      have wn : IntKind.i64.wrap n = n := by simp [IntKind.wrap, IntKind.bits, IntKind.signed]; omega
      have wm : IntKind.i64.wrap m = m := by simp [IntKind.wrap, IntKind.bits, IntKind.signed]; omega
      have hcomm : (i.bytes : Int) * m = m * i.bytes := Int.mul_comm _ _
      let c := (Array.range (m.toNat * i.size)).map (zv.cells[· % zv.cells.size]!)
      have hcl : c.toList = (List.replicate m.toNat zv.cells.toList).flatten := zero_fill zv.cells m.toNat i.size n3 n1
      obtain ⟨g1, g2, g3⟩ := fresh_row inv (xs := List.replicate n.toNat z0.cells) (c := c) e m.toNat i.size (by omega) (by simp [c]) (by simp; omega)
        (fun x hx => by
          rw [List.mem_replicate] at hx
          rw [hx.2]
          exact ⟨by rw [hlz, n3], hcz⟩)
        (fun j x _ hx => by
          have hj : j < n.toNat := by simpa using (List.getElem?_eq_some_iff.1 hx).1
          rw [List.getElem?_replicate, if_pos hj] at hx
          cases hx
          have : ((c.toList.drop ((j - 0) * i.size)).take i.size) = zv.cells.toList := by
            rw [hcl]
            apply List.ext_getElem?
            intro p
            rw [List.getElem?_take]
            split
            · rename_i hp
              have hb : j * i.size + p < m.toNat * zv.cells.toList.length := by
                have : (j + 1) * i.size ≤ m.toNat * i.size := Nat.mul_le_mul_right _ (by omega)
                rw [Nat.succ_mul] at this
                simp only [Array.length_toList, n3]
                omega
              rw [List.getElem?_drop, Nat.sub_zero, flat_rep_get _ _ _ hb]
              congr 1
              simp only [Array.length_toList, n3]
              rw [Nat.mul_comm, Nat.mul_add_mod, Nat.mod_eq_of_lt hp]
            · rename_i hp
              rw [List.getElem?_eq_none]
              simp; omega
          rw [this]
          exact hrz)
      rw [List.length_replicate] at g3
      refine ⟨_, _, _, _, ?_, g1, g2, g3⟩
      have t1 : (decide (m < 0) || decide ((i.bytes : Int) * m > 2 ^ 48)) = false := by
        simp; rw [hcomm]; omega
      simp only [Instr.makeSlice, Sem.run_bind, run_underlying ht, Result.andThen_ok, r3, r2, wn, wm]
      simp only [asInt, asIntOf, Sem.run_bind, Sem.run_pure, Result.andThen_ok, wn, wm, t1]
      rw [if_neg (by simp; omega)]
      simp only [Sem.run_bind, run_askRoom, Result.andThen_ok, r2]
      by_cases h0 : m.toNat * i.size = 0
      · have e4 : Array.map (fun x => (#[] : Array Value)[x % (#[] : Array Value).size]!) (Array.range (m.toNat * i.size)) = c := by simp [h0, c]
        rw [if_pos h0]
        simp only [Sem.run_bind, Sem.run_pure, Result.andThen_ok, newRow, run_newObj]
        rw [e4]
        rfl
      · rw [if_neg h0]
        simp only [Sem.run_bind, Sem.run_pure, Result.andThen_ok, r1, newRow, run_newObj]
        rfl
    · cases hh
  · cases hh
end
end Go.Ev
