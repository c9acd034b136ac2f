/- The forced words are identities; the evaluator's rules as rewriting rules. Operations that hang on no memory: the machine does what the evaluator says. Operations that hang on no memory, one by one. The operations that hang on no memory, together. No conditions. -/
import Derived.Test.YtaeklgflchhmfaaGreatDoorEvB
import Derived.Laws.Sem
import Derived.Laws.World
import Derived.Laws.Strings
import Derived.Laws.Bits
import GoSem.Dispatch
import Derived.Laws.StructEq
set_option maxHeartbeats 16000000
set_option maxRecDepth 100000
set_option linter.unusedVariables false
set_option linter.unusedSimpArgs false
set_option linter.unusedSectionVars false
namespace Go.Ev
section
variable {α : Type}
@[simp] theorem qZ5 (n : Nat) (k : Nat → α) : fNat n k = k n := by cases n <;> rfl
@[simp] theorem fInt_eq (n : Int) (k : Int → α) : fInt n k = k n := by cases n <;> simp [fInt]
@[simp] theorem fBool_eq (n : Bool) (k : Bool → α) : fBool n k = k n := by cases n <;> rfl
@[simp] theorem fS_eq {β : Type} (l : List β) (k : List β → α) : fS l k = k l := by
 induction l generalizing k with
 | nil => rfl
 | cons x r ih => rw [fS, ih]
theorem fU8s_eq (l : List UInt8) (k : List UInt8 → α) : fU8s l k = k l := by
 induction l generalizing k with
 | nil => rfl
 | cons x r ih => rw [fU8s, qZ5, ih]; simp
mutual
theorem fV_eq (v : V) (k : V → α) : fV v k = k v := by
 cases v with
 | str s => obtain ⟨⟨l⟩⟩ := s; simp [fV, fU8s_eq]
 | iptr cs => rw [fV]; exact fL_eq cs _
 | arr xs => rw [fV]; exact fR_eq xs _
 | agg cs => rw [fV]; exact fL_eq cs _
 | tup cs => rw [fV]; exact fL_eq cs _
 | ifc t v => rw [fV]; exact fV_eq v _
 | fn f a b => rw [fV, fL_eq a]; exact fL_eq b _
 | _ => simp [fV]
theorem fL_eq (l : List V) (k : List V → α) : fL l k = k l := by
 cases l with
 | nil => rfl
 | cons x r => rw [fL, fV_eq x, fL_eq r]
theorem fR_eq (l : List (List V)) (k : List (List V) → α) : fR l k = k l := by
 cases l with
 | nil => rfl
 | cons x r => rw [fR, fL_eq x, fR_eq r]
end
attribute [simp] fV_eq fL_eq fR_eq
theorem fE_eq (l : List (V × V × Nat)) (k : List (V × V × Nat) → α) : fE l k = k l := by
 induction l generalizing k with
 | nil => rfl
 | cons x r ih => obtain ⟨a, b, n⟩ := x; simp [fE, ih]
@[simp] theorem fOb_eq (o : Ob) (k : Ob → α) : fOb o k = k o := by
 cases o with
 | iter s n => obtain ⟨⟨l⟩⟩ := s; simp [fOb, fU8s_eq]
 | _ => simp [fOb, fE_eq]
@[simp] theorem fH_eq : ∀ (h : Heap) (k : Heap → α), fH h k = k h
 | [], k => rfl
 | o :: h, k => by rw [fH, fOb_eq, fH_eq h]
end
theorem beqS_iff {a b : ByteArray} : beqS a b = true ↔ a = b := by
 unfold beqS
 rw [beq_iff_eq]
 constructor
 ·intro h
  obtain ⟨a⟩ := a
  obtain ⟨b⟩ := b
  have := Array.toList_inj.1 h
  simp_all
 ·rintro rfl; rfl
mutual
theorem V.beq_eq (a b : V) (h : V.beq a b = true) : a = b := by
 cases a <;> cases b <;> simp only [V.beq, Bool.and_eq_true, beq_iff_eq, Bool.false_eq_true, beqS_iff] at h
 all_goals first
  | rfl
  | (obtain ⟨⟨⟨rfl, rfl⟩, rfl⟩, rfl⟩ := h; rfl)
  | (obtain ⟨⟨rfl, h1⟩, h2⟩ := h; rw [jZh _ _ h1, jZh _ _ h2])
  | (obtain ⟨rfl, rfl⟩ := h; rfl)
  | (obtain ⟨rfl, h2⟩ := h; rw [V.beq_eq _ _ h2])
  | (rw [h])
  | (rw [jZh _ _ h])
  | (rw [beqR_eq _ _ h])
theorem jZh (a b : List V) (h : beqL a b = true) : a = b := by
 cases a <;> cases b <;> simp only [beqL, Bool.and_eq_true, Bool.false_eq_true] at h
 ·rfl
 ·rw [V.beq_eq _ _ h.1, jZh _ _ h.2]
theorem beqR_eq (a b : List (List V)) (h : beqR a b = true) : a = b := by
 cases a <;> cases b <;> simp only [beqR, Bool.and_eq_true, Bool.false_eq_true] at h
 ·rfl
 ·rw [jZh _ _ h.1, beqR_eq _ _ h.2]
end
theorem beqE_eq : ∀ (a b : List (V × V × Nat)), beqE a b = true → a = b
 | [], [], _ => rfl
 | [], _ :: _, h => by simp [beqE] at h
 | _ :: _, [], h => by simp [beqE] at h
 | (a, b, c) :: r, (a', b', c') :: r', h => by
  simp only [beqE, Bool.and_eq_true, beq_iff_eq] at h
  obtain ⟨⟨⟨h1, h2⟩, h3⟩, h4⟩ := h
  rw [V.beq_eq _ _ h1, V.beq_eq _ _ h2, h3, beqE_eq r r' h4]
theorem Ob.beq_eq (a b : Ob) (h : Ob.beq a b = true) : a = b := by
 cases a <;> cases b <;> simp only [Ob.beq, Bool.and_eq_true, beq_iff_eq, Bool.false_eq_true] at h
 ·rfl
 ·rw [jZh _ _ h]
 ·obtain ⟨⟨⟨rfl, h1⟩, rfl⟩, rfl⟩ := h; rw [beqR_eq _ _ h1]
 ·obtain ⟨h1, rfl⟩ := h; rw [beqE_eq _ _ h1]
 ·rw [h]
 ·obtain ⟨h1, rfl⟩ := h; rw [beqS_iff.1 h1]
 ·rw [h]
theorem beqH_eq : ∀ (a b : Heap), beqH a b = true → a = b
 | [], [], _ => rfl
 | [], _ :: _, h => by simp [beqH] at h
 | _ :: _, [], h => by simp [beqH] at h
 | a :: r, b :: r', h => by
  simp only [beqH, Bool.and_eq_true] at h
  rw [Ob.beq_eq _ _ h.1, beqH_eq r r' h.2]
theorem St.beq_eq (a b : St) (h : St.beq a b = true) : a = b := by
 cases a; cases b
 simp only [St.beq, Bool.and_eq_true, beq_iff_eq] at h
 obtain ⟨⟨h1, rfl⟩, h3⟩ := h
 rw [jZh _ _ h1, beqH_eq _ _ h3]
theorem sameSt_eq {a b : St} (h : sameSt a b = true) : a = b := by
 simp only [sameSt, Bool.or_eq_true, decide_eq_true_eq] at h
 exact h.elim (St.beq_eq a b) id
@[simp] theorem okV_some (h : Heap) (v : V) : okV h (some v) = some (v, h) := by simp [okV]
@[simp] theorem qZ4 (h : Heap) (v : V) (o : Ob) : newOb h v o = some (v, h ++ [o]) := by simp [newOb]
@[simp] theorem qZW (h : Heap) (id : Nat) (v : V) (o : Ob) : setOb h id v o = some (v, h.set id o) := by simp [setOb]
theorem seq_eq (call : CallF) (lf : Nat) (rnd : Option Nat) (a b : Cc) (s : St) :
  evCode call lf rnd (.seq a b) s = match evCode call lf rnd a s with
   | some (.normal, s') => evCode call lf rnd b s'
   | r => r := rfl
open Go.RowKit
section
variable {P : Program} {S : Cells} {w : World} {κ : Kap}
theorem qZS : ∀ {xs : List V} {vs : List Value}, RL S w κ xs vs → xs.length = vs.length
 | [], [], _ => rfl
 | [], _ :: _, h => by simp [RL] at h
 | _ :: _, [], h => by simp [RL] at h
 | x :: xs, v :: vs, h => by simp only [RL] at h; simp [qZS h.2]
theorem kZg : ∀ {xs : List V} {vs : List Value}, RL S w κ xs vs → ∀ {i : Nat} {x : V}, xs[i]? = some x → ∃ v, vs[i]? = some v ∧ RV S w κ x v
 | [], [], _, i, x, h => by simp at h
 | [], _ :: _, h, _, _, _ => by simp [RL] at h
 | _ :: _, [], h, _, _, _ => by simp [RL] at h
 | y :: xs, v :: vs, h, i, x, hx => by
  simp only [RL] at h
  cases i with
  | zero => simp at hx; subst hx; exact ⟨v, rfl, h.1⟩
  | succ i => simp at hx; simpa using kZg h.2 hx
theorem vZd : ∀ {xs : List V} {vs : List Value} {ys : List V} {us : List Value}, RL S w κ xs vs → RL S w κ ys us → RL S w κ (xs ++ ys) (vs ++ us)
 | [], [], _, _, _, h => h
 | [], _ :: _, _, _, h, _ => by simp [RL] at h
 | _ :: _, [], _, _, h, _ => by simp [RL] at h
 | x :: xs, v :: vs, ys, us, h, k => by
  simp only [RL] at h
  exact ⟨h.1, vZd h.2 k⟩
theorem wZA : ∀ (n : Nat) {xs : List V} {vs : List Value}, RL S w κ xs vs → RL S w κ (xs.take n) (vs.take n)
 | 0, xs, vs, h => by simp [RL]
 | n + 1, [], [], _ => by simp [RL]
 | n + 1, [], _ :: _, h => by simp [RL] at h
 | n + 1, _ :: _, [], h => by simp [RL] at h
 | n + 1, x :: xs, v :: vs, h => by
  simp only [RL] at h
  simp only [List.take_succ_cons, RL]
  exact ⟨h.1, wZA n h.2⟩
theorem wZz : ∀ (n : Nat) {xs : List V} {vs : List Value}, RL S w κ xs vs → RL S w κ (xs.drop n) (vs.drop n)
 | 0, xs, vs, h => by simpa using h
 | n + 1, [], [], _ => by simp [RL]
 | n + 1, [], _ :: _, h => by simp [RL] at h
 | n + 1, _ :: _, [], h => by simp [RL] at h
 | n + 1, x :: xs, v :: vs, h => by
  simp only [RL] at h
  simpa using wZz n h.2
theorem RL_set : ∀ {xs : List V} {vs : List Value} (i : Nat) {x : V} {v : Value}, RL S w κ xs vs → RV S w κ x v → RL S w κ (xs.set i x) (vs.set i v)
 | [], [], _, _, _, _, _ => by simp [RL]
 | [], _ :: _, _, _, _, h, _ => by simp [RL] at h
 | _ :: _, [], _, _, _, h, _ => by simp [RL] at h
 | y :: xs, u :: vs, i, x, v, h, k => by
  simp only [RL] at h
  cases i with
  | zero => simp only [List.set_cons_zero, RL]; exact ⟨k, h.2⟩
  | succ i => simp only [List.set_cons_succ, RL]; exact ⟨h.1, RL_set i h.2 k⟩
theorem kZh {x : V} {v : Value} (h : RV S w κ x v) : ∀ n, RL S w κ (List.replicate n x) (List.replicate n v)
 | 0 => by simp [RL]
 | n + 1 => by simp only [List.replicate_succ, RL]; exact ⟨h, kZh h n⟩
theorem RL_one {x : V} {v : Value} : RL S w κ [x] [v] ↔ RV S w κ x v := by simp [RL]
theorem jZr : RV S w κ V.non undef := by simp [RV, RL, undef]
theorem kZl {v : Value} {x : V} (h : ofCell v = some x) : RV S w κ x v := by
 unfold ofCell at h
 split at h
 case h_9 =>
  split at h
  ·rename_i f a c hh
   cases h
   obtain ⟨h1, h2⟩ := hh
   obtain rfl : a = #[] := Array.size_eq_zero_iff.1 h1
   obtain rfl : c = #[] := Array.size_eq_zero_iff.1 h2
   simp only [RV]
   exact ⟨_, _, rfl, by simp [RL], by simp [RL]⟩
  ·cases h
 all_goals (cases h <;> simp [RV, RL])
theorem wZK : ∀ {vs : List Value} {xs : List V}, ofCellList vs = some xs → RL S w κ xs vs
 | [], xs, h => by simp [ofCellList] at h; subst h; simp [RL]
 | v :: vs, xs, h => by
  unfold ofCellList at h
  split at h
  ·rename_i x xs' h1 h2
   cases h
   exact ⟨kZl h1, wZK h2⟩
  ·cases h
theorem vZ5 {v : Value} {x : V} (h : ofConst v = some x) : RV S w κ x v := by
 unfold ofConst at h
 split at h
 ·rename_i cs
  simp only [Option.map_eq_some_iff] at h
  obtain ⟨l, hl, rfl⟩ := h
  simp only [RV]
  exact ⟨_, rfl, wZK hl⟩
 ·exact kZl h
theorem xZU {env : List V} {a : Act} (hr : RL S w κ env a.tmps.toList) (i : Nat) : RV S w κ (eget env i) (a.tmps.getD i undef) := by
 unfold eget
 rw [List.getD_eq_getElem?_getD]
 cases h : env[i]? with
 | none =>
  have hl := qZS hr
  rw [List.getElem?_eq_none_iff] at h
  have : a.tmps.getD i undef = undef := by
   simp [Array.getD]
   intro hh
   simp at hl
   omega
  rw [this]
  exact jZr
 | some x =>
  obtain ⟨v, hv, k⟩ := kZg hr h
  have : a.tmps.getD i undef = v := by
   simp at hv
   simp [Array.getD_eq_getD_getElem?, hv]
  rw [this]
  exact k
theorem zZ2 {env : List V} {a : Act} (hr : RL S w κ env a.tmps.toList) {o : Operand} {d : Od} (h : cOd o = some d) : RV S w κ (d.ev env) (a.eval o) := by
 unfold cOd at h
 split at h
 ·cases h; exact xZU hr _
 ·simp only [Option.map_eq_some_iff] at h
  obtain ⟨x, hx, rfl⟩ := h
  exact vZ5 hx
 ·cases h
  simp only [Od.ev, Act.eval, RV]
  exact ⟨_, _, rfl, by simp [RL], by simp [RL]⟩
 ·cases h
theorem put_sound {env : List V} {a : Act} (hr : RL S w κ env a.tmps.toList) {x : V} {v : Value} (h : RV S w κ x v) (d : Option Tmp) :
  RL S w κ (putV env d x) (a.put d v).tmps.toList := by
 cases d with
 | none => exact hr
 | some i =>
  simp only [putV, Act.put, Array.toList_setIfInBounds]
  exact RL_set i hr h
theorem kZJ {x : V} {v : Value} (h : RV S w κ x v) (hx : x ≠ .undef) : RL S w κ x.cells v.cells.toList := by
 cases x with
 | undef => exact absurd rfl hx
 | agg cs =>
  simp only [RV] at h
  obtain ⟨a, rfl, r⟩ := h
  exact r
 | fn f a c =>
  have h' := h
  cases f with
  | yield l =>
   simp only [RV] at h
   obtain ⟨b, hb, rfl, r, q⟩ := h
   simpa [V.cells, Value.cells, RL] using h'
  | _ =>
   simp only [RV] at h
   obtain ⟨a', c', rfl, r, q⟩ := h
   simpa [V.cells, Value.cells, RL] using h'
 | bool b | int b c | str b | nilp | nils | nilm | nilf | nili =>
  have h' := h
  simp only [RV] at h
  subst h
  simpa [V.cells, Value.cells, RL] using h'
 | nile =>
  have h' := h
  simp only [RV] at h
  obtain ⟨_, rfl⟩ := h
  simpa [V.cells, Value.cells, RL] using h'
 | ptr b c | map b | ifc b c | tup b | iptr b | arr b | eptr a b c d | sl a b c d =>
  have h' := h
  simp only [RV] at h
  first
   | (obtain ⟨_, _, rfl⟩ := h; simpa [V.cells, Value.cells, RL] using h')
   | (obtain ⟨_, rfl, _⟩ := h; simpa [V.cells, Value.cells, RL] using h')
   | (obtain ⟨_, _, rfl, _⟩ := h; simpa [V.cells, Value.cells, RL] using h')
   | (obtain ⟨_, _, _, _, _, _, _, _, rfl, _⟩ := h; simpa [V.cells, Value.cells, RL] using h')
   | (obtain ⟨_, _, _, _, _, _, _, _, _, rfl, _⟩ := h; simpa [V.cells, Value.cells, RL] using h')
end
open Go.RowKit
section
variable {P : Program} {S : Cells} {w : World} {κ : Kap}
theorem qZR {α : Type} {c : Prop} [Decidable c] {a b : α} (h : (if c then some a else none) = some b) : c ∧ a = b := by
 split at h
 ·exact ⟨by assumption, by simpa using h⟩
 ·cases h
theorem zZN {α : Type} {c : Prop} [Decidable c] {a : Option α} {b : α} (h : (if c then a else none) = some b) : c ∧ a = some b := by
 split at h
 ·exact ⟨by assumption, h⟩
 ·cases h
theorem vZn {α : Type} {c : Prop} [Decidable c] {a : Option α} {b : α} (h : (if c then none else a) = some b) : ¬ c ∧ a = some b := by
 split at h
 ·cases h
 ·exact ⟨by assumption, h⟩
theorem bytes_eq (a b : ByteArray) : (a.toList == b.toList) = beqS a b := by
 rw [ByteArray.toList_eq, ByteArray.toList_eq]; rfl
theorem binV_sound {t : TypeId} {op : BinOp} {x y z : V} {u v : Value} (hx : RV S w κ x u) (hy : RV S w κ y v) (h : binV op x y = some z) :
  ∃ r, RV S w κ z r ∧ ∀ w', (binOp op t u v).run P w' = .ok r w' := by
 unfold binV at h
 split at h
 ·rename_i k a k' b
  simp only [RV] at hx hy
  subst hx; subst hy
  cases op
  case shl =>
   obtain ⟨hb, h⟩ := vZn h
   cases h
   exact ⟨_, rfl, fun w' => by simp [binOp, Op.shift, hb]⟩
  case shr =>
   obtain ⟨hb, h⟩ := vZn h
   cases h
   exact ⟨_, rfl, fun w' => by simp [binOp, Op.shift, hb]⟩
  case quo =>
   obtain ⟨hk, h1⟩ := zZN h
   clear h
   subst hk
   obtain ⟨hb, h2⟩ := vZn h1
   cases h2
   exact ⟨_, rfl, fun w' => by simp [binOp, Op.intDiv, hb]⟩
  case rem =>
   obtain ⟨hk, h1⟩ := zZN h
   clear h
   subst hk
   obtain ⟨hb, h2⟩ := vZn h1
   cases h2
   exact ⟨_, rfl, fun w' => by simp [binOp, Op.intDiv, hb]⟩
  case add =>
   obtain ⟨rfl, rfl⟩ := qZR h
   exact ⟨_, rfl, fun w' => by simp [binOp, Op.intArith]⟩
  case sub =>
   obtain ⟨rfl, rfl⟩ := qZR h
   exact ⟨_, rfl, fun w' => by simp [binOp, Op.intArith]⟩
  case mul =>
   obtain ⟨rfl, rfl⟩ := qZR h
   exact ⟨_, rfl, fun w' => by simp [binOp, Op.intArith]⟩
  case and =>
   obtain ⟨hk, h1⟩ := zZN h
   clear h
   subst hk
   simp only [intBits, Option.map_some, Option.some.injEq] at h1
   subst h1
   exact ⟨_, rfl, fun w' => by simp [binOp, Op.intBits]⟩
  case or =>
   obtain ⟨hk, h1⟩ := zZN h
   clear h
   subst hk
   simp only [intBits, Option.map_some, Option.some.injEq] at h1
   subst h1
   exact ⟨_, rfl, fun w' => by simp [binOp, Op.intBits]⟩
  case xor =>
   obtain ⟨hk, h1⟩ := zZN h
   clear h
   subst hk
   simp only [intBits, Option.map_some, Option.some.injEq] at h1
   subst h1
   exact ⟨_, rfl, fun w' => by simp [binOp, Op.intBits]⟩
  case andNot =>
   obtain ⟨hk, h1⟩ := zZN h
   clear h
   subst hk
   simp only [intBits, Option.map_some, Option.some.injEq] at h1
   subst h1
   exact ⟨_, rfl, fun w' => by simp [binOp, Op.intBits]⟩
  case eql =>
   obtain ⟨hk, h1⟩ := zZN h
   clear h
   subst hk
   simp only [intCmp, Option.map_some, Option.some.injEq] at h1
   subst h1
   exact ⟨_, rfl, fun w' => by simp [binOp, Op.intCmp]⟩
  case neq =>
   obtain ⟨hk, h1⟩ := zZN h
   clear h
   subst hk
   simp only [intCmp, Option.map_some, Option.some.injEq] at h1
   subst h1
   exact ⟨_, rfl, fun w' => by simp [binOp, Op.intCmp]⟩
  case lss =>
   obtain ⟨hk, h1⟩ := zZN h
   clear h
   subst hk
   simp only [intCmp, Option.map_some, Option.some.injEq] at h1
   subst h1
   exact ⟨_, rfl, fun w' => by simp [binOp, Op.intCmp]⟩
  case leq =>
   obtain ⟨hk, h1⟩ := zZN h
   clear h
   subst hk
   simp only [intCmp, Option.map_some, Option.some.injEq] at h1
   subst h1
   exact ⟨_, rfl, fun w' => by simp [binOp, Op.intCmp]⟩
  case gtr =>
   obtain ⟨hk, h1⟩ := zZN h
   clear h
   subst hk
   simp only [intCmp, Option.map_some, Option.some.injEq] at h1
   subst h1
   exact ⟨_, rfl, fun w' => by simp [binOp, Op.intCmp]⟩
  case geq =>
   obtain ⟨hk, h1⟩ := zZN h
   clear h
   subst hk
   simp only [intCmp, Option.map_some, Option.some.injEq] at h1
   subst h1
   exact ⟨_, rfl, fun w' => by simp [binOp, Op.intCmp]⟩
 ·rename_i a b
  simp only [RV] at hx hy
  subst hx; subst hy
  cases op
  case add =>
   obtain ⟨hb, h⟩ := vZn h
   cases h
   refine ⟨_, rfl, fun w' => ?_⟩
   simp only [binOp, Op.stringOp]
   rw [if_neg hb]; rfl
  all_goals (first | (cases h; done) | (cases h; exact ⟨_, rfl, fun w' => by simp [binOp, Op.stringOp, bytes_eq, ByteArray.toList_eq, beqS]⟩))
 ·cases h
theorem xZX {op : BinOp} {t : TypeId} {x y : Operand} {u v : Value} (hu : u ≠ .nilIface) (ha : ∀ c, u ≠ .agg c) (w' : World) :
  (eqGuard op t x y u v).run P w' = .ok () w' := by
 cases u <;> first
  | exact absurd rfl hu
  | exact absurd rfl (ha _)
  | (unfold eqGuard; cases op <;> simp)
theorem unV_sound {op : UnOp} {x z : V} {u : Value} (hx : RV S w κ x u) (h : unV op x = some z) :
  ∃ r, RV S w κ z r ∧ ∀ w', (Op.unary op u).run P w' = .ok r w' := by
 unfold unV at h
 split at h
 ·simp only [RV] at hx; subst hx; cases h
  exact ⟨_, rfl, fun w' => by simp [Op.unary]⟩
 ·simp only [RV] at hx; subst hx; cases h
  exact ⟨_, rfl, fun w' => by simp [Op.unary, Op.intArith]⟩
 ·simp only [RV] at hx; subst hx
  simp only [intBits, Option.map_some, Option.some.injEq] at h
  subst h
  exact ⟨_, rfl, fun w' => by simp [Op.unary, Op.intBits]⟩
 ·cases h
theorem wZ5 {t : TypeId} {b : Bool} (h : isAggT P t = some b) (w' : World) : (isAgg t).run P w' = .ok b w' := by
 unfold isAggT at h
 unfold isAgg
 split at h
 ·rename_i hu; cases h; simp [run_underlying hu]
 ·rename_i hu; cases h; simp [run_underlying hu]
 ·rename_i d h1 h2 hu
  cases h
  cases d <;> first
   | exact absurd rfl (h1 _)
   | exact absurd rfl (h2 _ _)
   | simp [run_underlying hu]
 ·cases h
theorem vZf {t : TypeId} {n : Nat} (h : sizeT P t = some n) (w' : World) : (sizeOf t).run P w' = .ok n w' := by
 unfold sizeT at h
 simp only [Option.map_eq_some_iff] at h
 obtain ⟨i, hi, rfl⟩ := h
 simp [sizeOf, typeInfo, hi]
theorem xZI {t : TypeId} {ag : Option Nat} (h : aggT P t = some ag) :
  (isAggT P t = some true ∧ ∃ n, ag = some n ∧ sizeT P t = some n) ∨ (isAggT P t = some false ∧ ag = none) := by
 unfold aggT at h
 split at h
 ·rename_i hu
  simp only [Option.map_eq_some_iff] at h
  obtain ⟨n, hn, rfl⟩ := h
  exact .inl ⟨hu, n, rfl, hn⟩
 ·rename_i hu; cases h; exact .inr ⟨hu, rfl⟩
 ·cases h
theorem vZD {t : TypeId} {ag : Option Nat} {xs : List V} {cs : Array Value} {off : Nat} {x : V} (ha : aggT P t = some ag)
  (hr : RL S w κ xs cs.toList) (h : ofCells ag (xs.drop off) = some x) :
  ∃ u, RV S w κ x u ∧ ∀ w', (part t cs off).run P w' = .ok u w' := by
 rcases xZI ha with ⟨h1, n, rfl, hn⟩ | ⟨h1, rfl⟩
 ·simp only [ofCells] at h
  obtain ⟨hl, h⟩ := qZR h
  subst h
  refine ⟨.agg (cs.extract off (off + n)), ?_, fun w' => ?_⟩
  ·simp only [RV]
   refine ⟨_, rfl, ?_⟩
   have : (cs.extract off (off + n)).toList = (cs.toList.drop off).take n := by
    rw [Array.toList_extract, List.extract_eq_take_drop]
    congr 1
    omega
   rw [this]
   exact wZA n (wZz off hr)
  ·simp [part, wZ5 h1, vZf hn]
 ·cases hd : xs.drop off with
  | nil => rw [hd] at h; simp [ofCells] at h
  | cons c r =>
   rw [hd] at h
   simp only [ofCells, Option.some.injEq] at h
   subst h
   have hc : xs[off]? = some c := by
    have := congrArg List.head? hd
    simpa [List.head?_drop] using this
   obtain ⟨u, hu, k⟩ := kZg hr hc
   refine ⟨u, k, fun w' => ?_⟩
   have hu' : cs[off]? = some u := by simpa using hu
   simp [part, wZ5 h1, hu']
theorem cellEq_b {x y : V} {r : Bool} (h : cellEq .b x y = some r) : ∃ a b, x = .bool a ∧ y = .bool b ∧ r = (a == b) := by
 cases x <;> cases y <;> simp [cellEq] at h ⊢
 exact h.symm
theorem cellEq_i {x y : V} {r : Bool} (h : cellEq .i x y = some r) : ∃ k a b, x = .int k a ∧ y = .int k b ∧ r = (a == b) := by
 cases x <;> cases y <;> simp [cellEq] at h
 obtain ⟨rfl, rfl⟩ := h
 exact ⟨_, _, _, rfl, rfl, rfl⟩
theorem cellEq_s {x y : V} {r : Bool} (h : cellEq .s x y = some r) : ∃ a b, x = .str a ∧ y = .str b ∧ r = beqS a b := by
 cases x <;> cases y <;> simp [cellEq] at h ⊢
 exact h.symm
def ckT (P : Program) (t : TypeId) : Ck → Prop
 | .b => P.underlying t = some .bool
 | .i => ∃ q, P.underlying t = some (.int q)
 | .s => P.underlying t = some .string
theorem wZU {k : Ck} {x y : V} {u v : Value} {r : Bool} {t : TypeId} (hx : RV S w κ x u) (hy : RV S w κ y v) (h : cellEq k x y = some r)
  (ht : ckT P t k) (D : Nat) (w' : World) : (Op.equalIn (D + 1) t u v).run P w' = .ok r w' := by
 cases k with
 | b =>
  obtain ⟨a, b, rfl, rfl, rfl⟩ := cellEq_b h
  simp only [RV] at hx hy
  subst hx; subst hy
  exact run_equalIn_bool' w' D t _ _ ht
 | i =>
  obtain ⟨k, a, b, rfl, rfl, rfl⟩ := cellEq_i h
  simp only [RV] at hx hy
  subst hx; subst hy
  obtain ⟨q, hq⟩ := ht
  exact run_equalIn_int w' D t _ q _ _ hq
 | s =>
  obtain ⟨a, b, rfl, rfl, rfl⟩ := cellEq_s h
  simp only [RV] at hx hy
  subst hx; subst hy
  rw [run_equalIn_string w' D t _ _ ht, bytes_eq]
theorem xZA (D : Nat) (go : TypeId → Option Eqd)
  (hgo : ∀ t q, go t = some q → ∀ x y u v r, RV S w κ x u → RV S w κ y v → eqdV q x y = some r → ∀ w', (Op.equalIn D t u v).run P w' = .ok r w')
  {xs ys : List V} {cs ds : Array Value} (hx : RL S w κ xs cs.toList) (hy : RL S w κ ys ds.toList) :
  ∀ (fs : List Field) (q : Eqd) (r : Bool), eqD.eqFs P go fs = some q → eqdV q (.agg xs) (.agg ys) = some r →
   ∀ w', (Op.eqFields D cs ds fs).run P w' = .ok r w' := by
 intro fs
 induction fs with
 | nil =>
  intro q r hq he w'
  simp only [eqD.eqFs, Option.some.injEq] at hq
  subst hq
  simp only [eqdV, Option.some.injEq] at he
  subst he
  simp [Op.eqFields]
 | cons f fs ih =>
  intro q r hq he w'
  simp only [eqD.eqFs] at hq
  split at hq
  ·rename_i hn
   simp only [Op.eqFields, hn, ne_eq, not_true, if_false]
   exact ih q r hq he w'
  ·rename_i hn
   split at hq
   ·rename_i q1 ag r1 h1 h2 h3
    cases hq
    simp only [eqdV] at he
    split at he
    ·rename_i a ha
     split at he
     ·rename_i b hb
      split at he
      ·rename_i p hp
       split at he
       ·rename_i qq hqq
        cases he
        obtain ⟨u, hu, pu⟩ := vZD (P := P) h2 hx ha
        obtain ⟨v, hv, pv⟩ := vZD (P := P) h2 hy hb
        have e1 := hgo _ _ h1 a b u v p hu hv hp
        have e2 := ih r1 qq h3 hqq
        simp only [Op.eqFields, ne_eq, hn, not_false_eq_true, if_true, Sem.run_bind, pu, pv, e1, Result.andThen_ok]
        cases p with
        | false => simp
        | true => simp [e2]
       ·cases he
      ·cases he
     ·cases he
    ·cases he
   ·cases hq
def eqElems (d : Nat) (e : TypeId) (n : Nat) (xs ys : Array Value) : List Nat → Sem Bool
 | [] => pure true
 | i :: is => do
  let a ← part e xs (i * n)
  let b ← part e ys (i * n)
  let r ← Op.equalIn d e a b
  if (!r) = true then pure false else eqElems d e n xs ys is
theorem kZf (d : Nat) (t e : TypeId) (len n : Nat) (xs ys : Array Value) (ht : P.underlying t = some (.array len e)) (hn : sizeT P e = some n) (w' : World) :
  (Op.equalIn (d + 1) t (.agg xs) (.agg ys)).run P w' = (eqElems d e n xs ys (List.range len)).run P w' := by
 simp only [Op.equalIn, Sem.run_bind, run_underlying ht, Result.andThen_ok, vZf hn]
 rw [Std.Legacy.Range.forIn_eq_forIn_range']
 simp only [Std.Legacy.Range.size, Nat.sub_zero, Nat.add_sub_cancel, Nat.div_one, ← List.range_eq_range']
 generalize List.range len = is
 induction is generalizing w' with
 | nil => simp [eqElems]
 | cons i is ih =>
  simp only [List.forIn_cons, eqElems, Sem.run_bind, Sem.run_ite]
  generalize (part e xs (i * n)).run P w' = r1
  cases r1 with
  | ok a w1 =>
   simp only [Result.andThen_ok]
   generalize (part e ys (i * n)).run P w1 = r2
   cases r2 with
   | ok b w2 =>
    simp only [Result.andThen_ok]
    generalize (Op.equalIn d e a b).run P w2 = r3
    cases r3 with
    | ok r w3 =>
     cases r
     ·simp only [Result.andThen_ok, Bool.not_false, if_true, Sem.run_pure]
     ·simp only [Result.andThen_ok, Bool.not_true, Bool.false_eq_true, if_false, Sem.run_pure]
      exact ih w3
    | halt x w3 => simp [Result.andThen]
   | halt x w2 => simp [Result.andThen]
  | halt x w1 => simp [Result.andThen]
theorem eqElems_sound (D : Nat) {e : TypeId} {n : Nat} {ag : Option Nat} {q : Eqd} (ha : aggT P e = some ag)
  (hgo : ∀ x y u v r, RV S w κ x u → RV S w κ y v → eqdV q x y = some r → ∀ w', (Op.equalIn D e u v).run P w' = .ok r w')
  {xs ys : List V} {cs ds : Array Value} (hx : RL S w κ xs cs.toList) (hy : RL S w κ ys ds.toList) :
  ∀ (m i : Nat) (r : Bool), eqdV (eqD.eqAs n ag q m i) (.agg xs) (.agg ys) = some r →
   ∀ w', (eqElems D e n cs ds (List.range' i m)).run P w' = .ok r w' := by
 intro m
 induction m with
 | zero =>
  intro i r he w'
  simp only [eqD.eqAs, eqdV, Option.some.injEq] at he
  subst he
  simp [eqElems]
 | succ m ih =>
  intro i r he w'
  simp only [eqD.eqAs, eqdV] at he
  split at he
  ·rename_i a hxa
   split at he
   ·rename_i b hyb
    split at he
    ·rename_i p hp
     split at he
     ·rename_i qq hqq
      cases he
      obtain ⟨u, hu, pu⟩ := vZD (P := P) ha hx hxa
      obtain ⟨v, hv, pv⟩ := vZD (P := P) ha hy hyb
      have e1 := hgo a b u v p hu hv hp
      have e2 := ih (i + 1) qq hqq
      simp only [List.range'_succ, eqElems, Sem.run_bind, pu, pv, e1, Result.andThen_ok]
      cases p with
      | false => simp
      | true => simp [e2]
     ·cases he
    ·cases he
   ·cases he
  ·cases he
theorem wZV {off : Nat} {ag : Option Nat} {d r : Eqd} {x y : V} {b : Bool} (h : eqdV (.cons off ag d r) x y = some b) : ∃ xs ys, x = .agg xs ∧ y = .agg ys := by
 cases x <;> cases y <;> simp [eqdV] at h ⊢
theorem wZX {a q : Eqd} (h : eqD.nn a = some q) : a = q ∧ ∃ x y z t, q = .cons x y z t := by
 cases a <;> simp [eqD.nn] at h
 subst h
 exact ⟨rfl, _, _, _, _, rfl⟩
theorem jZ2 : ∀ (d : Nat) (t : TypeId) (q : Eqd), eqD P d t = some q → ∀ x y u v r,
  RV S w κ x u → RV S w κ y v → eqdV q x y = some r → ∀ D w', d ≤ D → (Op.equalIn D t u v).run P w' = .ok r w' := by
 intro d
 induction d with
 | zero => intro t q h; simp [eqD] at h
 | succ d ih =>
  intro t q h x y u v r hx hy he D w' hD
  obtain ⟨D, rfl⟩ : ∃ m, D = m + 1 := ⟨D - 1, by omega⟩
  simp only [eqD] at h
  split at h
  ·rename_i ht; cases h; exact wZU hx hy he ht D w'
  ·rename_i k ht; cases h; exact wZU hx hy he (k := .i) ⟨_, ht⟩ D w'
  ·rename_i ht; cases h; exact wZU hx hy he ht D w'
  ·rename_i fs ht
   obtain ⟨hst, h⟩ := vZn h
   simp only [Option.bind_eq_some_iff] at h
   obtain ⟨q', hq', h⟩ := h
   obtain ⟨rfl, a, b, c, e, rfl⟩ := wZX h
   obtain ⟨xs, ys, rfl, rfl⟩ := wZV he
   simp only [RV] at hx hy
   obtain ⟨cs, rfl, hx⟩ := hx
   obtain ⟨ds, rfl, hy⟩ := hy
   have hf : P.fieldsOf t = fs := by simp [Program.fieldsOf, ht]
   rw [run_equalIn_struct w' D t cs ds (by rw [hf]; exact ht) (by simpa using hst), hf]
   exact xZA D (eqD P d) (fun t' q' h' x' y' u' v' r' hx' hy' he' w'' => ih t' q' h' x' y' u' v' r' hx' hy' he' D w'' (by omega)) hx hy fs.toList _ _ hq' he w'
  ·rename_i n e ht
   simp only [Option.bind_eq_some_iff] at h
   obtain ⟨s, hs, ag, hag, q', hq', h⟩ := h
   obtain ⟨h1, a, b, c, e', rfl⟩ := wZX h
   obtain ⟨xs, ys, rfl, rfl⟩ := wZV he
   simp only [RV] at hx hy
   obtain ⟨cs, rfl, hx⟩ := hx
   obtain ⟨ds, rfl, hy⟩ := hy
   rw [kZf D t e n s cs ds ht hs, List.range_eq_range']
   refine eqElems_sound D hag (fun x' y' u' v' r' hx' hy' he' w'' => ih e q' hq' x' y' u' v' r' hx' hy' he' D w'' (by omega)) hx hy n 0 _ ?_ w'
   rw [h1]; exact he
  ·cases h
/-! ### The pure operations -/
def Same (P : Program) (S : Cells) (w : World) (κ : Kap) (x : V) (s : Sem Next) : Prop :=
 ∃ v, RV S w κ x v ∧ ∀ w', s.run P w' = .ok (.value v) w'
theorem Same.of {x : V} {s : Sem Value} (h : ∃ v, RV S w κ x v ∧ ∀ w', s.run P w' = .ok v w') : Same P S w κ x (do pure (.value (← s))) := by
 obtain ⟨v, hv, hs⟩ := h
 exact ⟨v, hv, fun w' => by simp [hs]⟩
theorem qZQ {h h' : Heap} {o : Option V} {x : V} (e : okV h o = some (x, h')) : o = some x ∧ h' = h := by
 cases o with
 | none => simp [okV] at e
 | some v => simp at e; exact ⟨by rw [e.1], e.2.symm⟩
theorem RC_drop : ∀ (n : Nat) {xs : List V} {b o : Nat}, RC S w xs b o → RC S w (xs.drop n) b (o + n)
 | 0, xs, b, o, h => by simpa using h
 | n + 1, [], b, o, h => by simp [RC]
 | n + 1, x :: xs, b, o, h => by
  simp only [RC] at h
  simp only [List.drop_succ_cons]
  have := RC_drop n h.2.2
  rwa [Nat.add_assoc, Nat.add_comm 1 n] at this
theorem kZS : ∀ {xs : List (List V)} {b o sz : Nat}, RE S w xs b o sz → ∀ {i : Nat} {e : List V}, xs[i]? = some e → e.length = sz ∧ RC S w e b (o + i * sz)
 | [], b, o, sz, h, i, e, hi => by simp at hi
 | x :: xs, b, o, sz, h, i, e, hi => by
  simp only [RE] at h
  cases i with
  | zero => simp at hi; subst hi; simpa using ⟨h.1, h.2.1⟩
  | succ i =>
   simp at hi
   have := kZS h.2.2 hi
   rw [Nat.add_mul, Nat.one_mul]
   rwa [Nat.add_assoc, Nat.add_comm sz] at this
theorem faddrV_sound {P : Program} {t : TypeId} {fs : Array Field} {f : Nat} {g : Field} {n : Nat} (ht : P.underlying t = some (.struct fs)) (hg : fs[f]? = some g)
  (hn : sizeT P g.type = some n) (h0 : n ≠ 0) {x z : V} {u : Value} (hx : RV S w κ x u) (h : faddrV g.offset x = some z) :
  ∃ v, RV S w κ z v ∧ ∀ w', (Instr.fieldAt t u f).run P w' = .ok v w' := by
 have run : ∀ a w', (Instr.fieldAt t (.pointer (some a)) f).run P w' = .ok (.pointer (some (a.add g.offset))) w' := fun a w' => by
  simp [Instr.fieldAt, run_underlying ht, hg, Instr.sureAddr, fieldPlace, vZf hn, h0]
 cases x <;> simp only [faddrV, Option.some.injEq, reduceCtorEq] at h
 ·subst h
  simp only [RV] at hx
  obtain ⟨b, hb, rfl⟩ := hx
  refine ⟨_, ?_, run _⟩
  simp only [RV]
  refine ⟨b, hb, ?_⟩
  simp only [Addr.add]
  split
  ·rename_i h; simp [h]
  ·rfl
 ·subst h
  simp only [RV] at hx
  obtain ⟨e, b, st, cp, sz, p, hb, le, rfl, k⟩ := hx
  refine ⟨_, ?_, run _⟩
  simp only [RV]
  refine ⟨e, b, st, cp, sz, _, hb, le, rfl, fun he => ?_⟩
  obtain ⟨k1, rfl⟩ := k he
  refine ⟨k1, ?_⟩
  simp only [Addr.add]
  split
  ·rename_i h; simp [h]
  ·simp [Nat.add_assoc]
 ·obtain ⟨hl, rfl⟩ := qZR h
  simp only [RV] at hx
  obtain ⟨b, o, rfl, k⟩ := hx
  refine ⟨_, ?_, run _⟩
  simp only [RV]
  refine ⟨b, o + g.offset, ?_, RC_drop g.offset k⟩
  simp only [Addr.add]
  split
  ·rename_i h; simp [h]
  ·rfl
end
open Go.RowKit
section
variable {P : Program} {G : Glob} {B : Base G} {S : Cells} {w : World} {κ : Kap} {h : Heap}
theorem vZE (b o n : Nat) : (⟨b, o, none⟩ : Addr).add n = ⟨b, o + n, none⟩ := by
 simp only [Addr.add]
 split
 ·rename_i h; simp [h]
 ·rfl
theorem vZk (inv : Inv P B S w κ h) {id sz : Nat} {xs : List (List V)} {ep : Nat} {wr : Bool} (hi : h[id]? = some (.row sz xs ep wr)) :
  ∃ b st cp c el fr, κ id = some (.row ep b st cp sz) ∧ w.heap[b]? = some (.cells c el fr) ∧ NR sz fr c.size ∧
   0 < sz ∧ c.size = cp * sz ∧ st ≤ xs.length ∧ xs.length ≤ st + cp ∧ (∀ e ∈ xs, e.length = sz ∧ e.all V.isCell = true) ∧
   RR S w κ xs st sz c.toList ∧
   (∀ o, (xs.length - st) * sz ≤ o → ¬ S b o) ∧ (wr = true → ∀ o, ¬ S b o) := inv.obs id _ hi
theorem xZc {t e : TypeId} {n : Nat} (ht : P.underlying t = some (.slice e)) (hn : sizeT P e = some n) (k : IntKind) (i : Int) (a : Addr) (l c : Nat) (h0 : 0 ≤ i) (h1 : i < l) (w' : World) :
  (Instr.indexAt t (.slice (some a) l c) (.int k i)).run P w' = .ok (.pointer (some (a.add (i.toNat * n)))) w' := by
 simp [Instr.indexAt, asIntOf, run_underlying ht, vZf hn, h0, h1]
theorem iaddrV_sound (inv : Inv P B S w κ h) {t e : TypeId} {n : Nat} (ht : P.underlying t = some (.slice e)) (hn : sizeT P e = some n) {x i z : V} {u v : Value}
  (hx : RV S w κ x u) (hi : RV S w κ i v) (hh : iaddrV h n x i = some z) :
  ∃ r, RV S w κ z r ∧ ∀ w', (Instr.indexAt t u v).run P w' = .ok r w' := by
 unfold iaddrV at hh
 split at hh
 ·rename_i q m
  simp only [RV] at hi
  subst hi
  split at hh
  ·rename_i xs
   obtain ⟨hm, hh⟩ := zZN hh
   split at hh
   ·rename_i ce hce
    obtain ⟨hl, rfl⟩ := qZR hh
    simp only [RV] at hx
    obtain ⟨a, cap, rfl, hcap, hx⟩ := hx
    rcases hx with rfl | ⟨b, o, sz, rfl, hre⟩
    ·simp at hm; omega
    ·obtain ⟨g1, g2⟩ := kZS hre hce
     refine ⟨_, ?_, xZc ht hn q m _ _ _ hm.1 hm.2⟩
     simp only [RV]
     refine ⟨b, o + m.toNat * n, ?_, ?_⟩
     ·rw [vZE]
     ·rw [← hl, g1]; exact g2
   ·cases hh
  ·rename_i id ep off len
   obtain ⟨hm, hh⟩ := zZN hh
   split at hh
   ·rename_i zz xs cur wr hrow
    obtain ⟨⟨hep, hzz, hlt⟩, rfl⟩ := qZR hh
    clear hh
    subst hep
    subst hzz
    obtain ⟨b, st, cp, c, el, fr, g1, g2, g3, g4, g5, g6, g7, g8, g9, g10, g11⟩ := vZk inv hrow
    simp only [RV] at hx
    obtain ⟨e', b', st', cp', sz', a, c', k1, k2, rfl, kl, k3⟩ := hx
    rw [g1] at k1
    cases k1
    obtain ⟨k4, k5, k6, k7⟩ := k3 rfl
    refine ⟨_, ?_, xZc ht hn q m _ _ _ hm.1 hm.2⟩
    simp only [RV]
    refine ⟨_, b, st, cp, _, _, g1, Nat.le_refl _, rfl, fun _ => ⟨by omega, ?_⟩⟩
    rcases k7 with k7 | rfl
    ·omega
    ·rw [vZE, Nat.add_zero]
     congr 1
     rw [← Nat.add_mul]
     congr 1
     omega
   ·cases hh
  ·cases hh
 ·cases hh
theorem sureAddr_ptr (a : Addr) (w' : World) : (Instr.sureAddr (.pointer (some a))).run P w' = .ok a w' := rfl
theorem faddrAny {x z : V} {u : Value} {n : Nat} (hx : RV S w κ x u) (h : faddrV n x = some z) :
  ∃ a, u = .pointer (some a) ∧ RV S w κ z (.pointer (some (a.add n))) := by
 cases x <;> simp only [faddrV, Option.some.injEq, reduceCtorEq] at h
 ·subst h
  simp only [RV] at hx ⊢
  obtain ⟨b, hb, rfl⟩ := hx
  exact ⟨_, rfl, b, hb, by rw [vZE]⟩
 ·subst h
  simp only [RV] at hx ⊢
  obtain ⟨e, b, st, cp, sz, p, hb, le, rfl, k⟩ := hx
  refine ⟨_, rfl, e, b, st, cp, sz, _, hb, le, rfl, fun he => ?_⟩
  obtain ⟨k1, rfl⟩ := k he
  exact ⟨k1, by rw [vZE, Nat.add_assoc]⟩
 ·obtain ⟨hl, rfl⟩ := qZR h
  simp only [RV] at hx ⊢
  obtain ⟨b, o, rfl, k⟩ := hx
  exact ⟨_, rfl, b, o + n, by rw [vZE], RC_drop n k⟩
theorem iaddrA_sound {t e : TypeId} {len n : Nat} (ht : P.underlying t = some (.array len e)) (hn : sizeT P e = some n) {x i z : V} {u v : Value} {h' : Heap}
  (hx : RV S w κ x u) (hi : RV S w κ i v) (hh : evIaddrA h len n x i = some (z, h')) :
  h' = h ∧ ∃ r, RV S w κ z r ∧ ∀ w', (Instr.indexAt t u v).run P w' = .ok r w' := by
 unfold evIaddrA at hh
 split at hh
 ·rename_i q m
  simp only [RV] at hi
  subst hi
  obtain ⟨hm, h1⟩ := zZN hh
  obtain ⟨h2, h3⟩ := qZQ h1
  subst h3
  obtain ⟨a, rfl, hz⟩ := faddrAny hx h2
  refine ⟨rfl, _, hz, fun w' => ?_⟩
  simp [Instr.indexAt, asIntOf, run_underlying ht, vZf hn, hm.1, hm.2, Instr.sureAddr]
 ·cases hh
theorem idxS_sound {t : TypeId} (ht : P.underlying t = some .string) {x i z : V} {u v : Value} {h' : Heap}
  (hx : RV S w κ x u) (hi : RV S w κ i v) (hh : evIdxS h x i = some (z, h')) :
  h' = h ∧ ∃ r, RV S w κ z r ∧ ∀ w', (Instr.index t u v).run P w' = .ok r w' := by
 unfold evIdxS at hh
 split at hh
 ·split at hh
  ·simp only [RV] at hx hi
   subst hx; subst hi
   obtain ⟨hm, h1⟩ := zZN hh
   clear hh
   split at h1
   ·rename_i b hb
    obtain ⟨h2, h3⟩ := qZQ h1
    cases h2
    subst h3
    refine ⟨rfl, _, rfl, fun w' => ?_⟩
    simp [Instr.index, asIntOf, run_underlying ht, hm, hb]
   ·cases h1
  ·cases hh
 ·cases hh
theorem wZD {h' : Heap} {ag : Option Nat} {cs : List V} {z : V} (hh : okCells h ag (some cs) = some (z, h')) : ofCells ag cs = some z ∧ h' = h := by
 cases ag with
 | none =>
  cases cs with
  | nil => simp [okCells] at hh
  | cons c r => simp [okCells, ofCells] at hh ⊢; exact ⟨hh.1, hh.2.symm⟩
 | some n =>
  simp only [okCells, fS_eq] at hh
  obtain ⟨hl, hh⟩ := qZR hh
  cases hh
  exact ⟨by simp [ofCells, hl], rfl⟩
theorem idxA_sound {t e : TypeId} {len n : Nat} {ag : Option Nat} (ht : P.underlying t = some (.array len e)) (hn : sizeT P e = some n) (ha : aggT P e = some ag)
  {x i z : V} {u v : Value} {h' : Heap} (hx : RV S w κ x u) (hi : RV S w κ i v) (hh : evIdxA h len n ag x i = some (z, h')) :
  h' = h ∧ ∃ r, RV S w κ z r ∧ ∀ w', (Instr.index t u v).run P w' = .ok r w' := by
 unfold evIdxA at hh
 split at hh
 ·split at hh
  ·rename_i cs _ q m
   simp only [RV] at hx hi
   subst hi
   obtain ⟨a, rfl, hx⟩ := hx
   obtain ⟨hm, h1⟩ := zZN hh
   obtain ⟨h2, h3⟩ := wZD h1
   subst h3
   obtain ⟨r, hr, pr⟩ := vZD (P := P) ha hx h2
   refine ⟨rfl, r, hr, fun w' => ?_⟩
   simp [Instr.index, asIntOf, run_underlying ht, hm.1, hm.2, vZf hn, pr]
  ·cases hh
 ·cases hh
theorem field_sound {t : TypeId} {fs : Array Field} {f : Nat} {g : Field} {ag : Option Nat} (ht : P.underlying t = some (.struct fs)) (hg : fs[f]? = some g)
  (ha : aggT P g.type = some ag) {x z : V} {u : Value} {h' : Heap} (hx : RV S w κ x u) (hh : evField h g.offset ag x = some (z, h')) :
  h' = h ∧ ∃ r, RV S w κ z r ∧ ∀ w', (Instr.field t u f).run P w' = .ok r w' := by
 unfold evField at hh
 split at hh
 ·simp only [RV] at hx
  obtain ⟨a, rfl, hx⟩ := hx
  obtain ⟨h2, h3⟩ := wZD hh
  subst h3
  obtain ⟨r, hr, pr⟩ := vZD (P := P) ha hx h2
  refine ⟨rfl, r, hr, fun w' => ?_⟩
  simp [Instr.field, run_underlying ht, hg, asAgg, pr]
 ·cases hh
theorem ext_sound {i : Nat} {x z : V} {u : Value} {h' : Heap} (hx : RV S w κ x u) (hh : evExt h x i = some (z, h')) :
  h' = h ∧ ∃ r, RV S w κ z r ∧ ∀ w', (Instr.extract u i).run P w' = .ok r w' := by
 unfold evExt at hh
 split at hh
 ·simp only [RV] at hx
  obtain ⟨a, rfl, hx⟩ := hx
  split at hh
  ·rename_i v hv
   cases hh
   obtain ⟨r, hr, k⟩ := kZg hx hv
   refine ⟨rfl, r, k, fun w' => ?_⟩
   have : a[i]? = some r := by simpa using hr
   simp [Instr.extract, this]
  ·cases hh
 ·cases hh
theorem nilchk_sound {x z : V} {u : Value} {h' : Heap} (hx : RV S w κ x u) (hh : evNilchk h x = some (z, h')) :
  h' = h ∧ z = x ∧ (∃ a, u = .pointer (some a) ∨ ∃ f a c, u = .func (.func f) a c ∨ u = .func (.yield f) a c) := by
 unfold evNilchk at hh
 split at hh
 ·cases hh
  simp only [RV] at hx
  obtain ⟨b, _, rfl⟩ := hx
  exact ⟨rfl, rfl, _, .inl rfl⟩
 ·cases hh
  simp only [RV] at hx
  obtain ⟨_, _, _, _, _, _, _, _, rfl, _⟩ := hx
  exact ⟨rfl, rfl, _, .inl rfl⟩
 ·cases hh
  simp only [RV] at hx
  obtain ⟨b, _, rfl, _⟩ := hx
  exact ⟨rfl, rfl, _, .inl rfl⟩
 ·split at hh
  ·cases hh
   simp only [RV] at hx
   obtain ⟨_, _, rfl, _⟩ := hx
   exact ⟨rfl, rfl, ⟨0, 0, none⟩, .inr ⟨_, _, _, .inl rfl⟩⟩
  ·cases hh
   simp only [RV] at hx
   obtain ⟨_, _, rfl, _⟩ := hx
   exact ⟨rfl, rfl, ⟨0, 0, none⟩, .inr ⟨_, _, _, .inr rfl⟩⟩
  ·cases hh
 ·cases hh
end
end Go.Ev
