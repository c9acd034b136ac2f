/- The abstract evaluator: values, heap, compiled code and its meaning. No conditions. -/
import Derived.CallsIn
import Derived.OrdersIn
import Derived.RangeFuncIn
import Derived.RangeFuncLeaves
import Derived.KernelRfl
import Derived.Lib.ItoaNum
import Derived.Lib.AtoiAll
import Derived.Lib.Bytealg
import Derived.Lib.Join
set_option maxHeartbeats 16000000
set_option maxRecDepth 100000
set_option linter.unusedVariables false
set_option linter.unusedSimpArgs false
set_option linter.unusedSectionVars false
namespace Go.Ev
inductive V where
 | undef
 | bool (b : Bool)
 | int (k : IntKind) (n : Int)
 | str (s : ByteArray)
 | nilp
 | ptr (id off : Nat)
 | eptr (id ep idx off : Nat)
 | iptr (cs : List V)
 | nils
 | nile
 | arr (xs : List (List V))
 | sl (id ep off len : Nat)
 | nilm
 | map (id : Nat)
 | nilf
 | fn (f : Fn) (first caps : List V)
 | nili
 | ifc (t : Nat) (v : V)
 | agg (cs : List V)
 | tup (vs : List V)
 deriving Inhabited
inductive Od where
 | t (i : Nat)
 | c (v : V)
 deriving Inhabited
inductive Ck where
 | b | i | s
 deriving DecidableEq, Inhabited
inductive Eqd where
 | leaf (k : Ck)
 | nil
 | cons (off : Nat) (ag : Option Nat) (d r : Eqd)
 deriving Inhabited
inductive Lk where
 | p | l | m | f | s
 deriving DecidableEq, Inhabited
inductive Cv where
 | int (k : IntKind)
 | same
 | bytesStr
 | strBytes
 deriving Inhabited
inductive Pr where
 | itoa
 | atoi (t : Nat)
 | sidx
 | sbyte
 | join
 deriving DecidableEq, Inhabited
inductive Cop where
 | mov (x : Od)
 | pick (c a b : Od)
 | alloc (zero : List V)
 | box (x : Od)
 | build (zero : List V) (parts : List (Nat × Nat × Od))
 | bslice (zero : List V) (len sz : Nat) (parts : List (Nat × Od))
 | load (agg : Option Nat) (x : Od)
 | store (n : Nat) (a x : Od)
 | bin (op : BinOp) (x y : Od)
 | eqc (neg : Bool) (d : Eqd) (x y : Od)
 | eqn (k : Lk) (neg : Bool) (x y : Od)
 | un (op : UnOp) (x : Od)
 | conv (d : Cv) (x : Od)
 | field (off : Nat) (agg : Option Nat) (x : Od)
 | faddr (off : Nat) (x : Od)
 | iaddr (sz : Nat) (x i : Od)
 | iaddrA (len sz : Nat) (x i : Od)
 | idxS (x i : Od)
 | idxA (len sz : Nat) (agg : Option Nat) (x i : Od)
 | slice (k : Lk) (sz : Nat) (x : Od) (lo hi : Option Od)
 | ext (x : Od) (i : Nat)
 | mki (t : Nat) (x : Od)
 | mkf (f : Fn) (first caps : List Od)
 | mkm
 | mks (zero : List V) (sz bytes : Nat) (len cap : Od)
 | look (ks : Eqd) (ok : Bool) (zero : V) (m k : Od)
 | mapup (ks : Eqd) (m k x : Od)
 | mapent (ks : Eqd) (zero : V) (m k : Od)
 | entst (m s x : Od)
 | len (k : Lk) (x : Od)
 | mx (xs : List Od)
 | mn (xs : List Od)
 | app (sz bytes : Nat) (s x : Od)
 | copy (sz : Nat) (d x : Od)
 | del (ks : Eqd) (m k : Od)
 | nilchk (x : Od)
 | slice3 (x : Od) (lo : Option Od) (hi mx : Od)
 | clr (sz : Nat) (zero : List V) (x : Od)
 | ins (sz bytes : Nat) (s i x : Od)
 | cln (sz bytes : Nat) (x : Od)
 | atadd (k : IntKind) (x y : Od)
 | atst (k : IntKind) (x y : Od)
 | atld (k : IntKind) (x : Od)
 | onceIn (x f : Od)
 | onceOut (x : Od)
 | rngs (x : Od)
 | nxt (x : Od)
 | inil (neg : Bool) (x : Od)
 | resv (ds : List Nat)
 | allocD (d : Nat) (zero : List V)
 | halt
 | prim (p : Pr) (xs : List Od)
 | call (f : Od) (args : List Od)
 deriving Inhabited
structure Cp where
 dst : Option Nat
 op : Cop
 guard : Option (Nat × Bool)
 deriving Inhabited
inductive Rv where
 | tmp (t : Nat)
 | cell (t : Nat) (agg : Option Nat)
 deriving Inhabited
inductive Cc where
 | skip
 | region (ops : List Cp)
 | draw (ops : List Cp) (after : List (List Nat)) (fl : List Nat)
 | seq (a b : Cc)
 | cond (c : Od) (a b : Cc)
 | block (id : Nat) (c : Cc)
 | loop (c : Cc)
 | exit (id : Nat)
 | ret
 | rfunc (f : Od) (params : List Nat) (assign body : Cc)
 deriving Inhabited
structure Cf where
 ntmps : Nat
 results : List Rv
 body : Cc
 pure : Bool
 deriving Inhabited
inductive Ex where
 | normal
 | exit (id : Nat)
 | ret
 deriving DecidableEq, Inhabited
inductive Ob where
 | dead
 | cells (cs : List V)
 | row (sz : Nat) (xs : List (List V)) (ep : Nat) (wr : Bool)
 | map (es : List (V × V × Nat)) (clock : Nat)
 | loop (st : LoopState) (pending : Option Ex) (env : List V) (params : List Nat) (assign body : Cc) (df : Nat)
 | defr (taken : Bool)
 | iter (s : ByteArray) (pos : Nat)
 | resv (d : Nat)
 deriving Inhabited
abbrev Heap := List Ob
structure St where
 env : List V
 marks : List Nat
 heap : Heap
 deriving Inhabited
/-! ### The same -/
def beqS (a b : ByteArray) : Bool := a.data.toList == b.data.toList
mutual
def V.beq : V → V → Bool
 | .undef, .undef => true
 | .bool a, .bool b => a == b
 | .int k a, .int l b => k == l && a == b
 | .str a, .str b => beqS a b
 | .nilp, .nilp => true
 | .ptr a b, .ptr c d => a == c && b == d
 | .eptr a b c d, .eptr a' b' c' d' => a == a' && b == b' && c == c' && d == d'
 | .iptr a, .iptr b => beqL a b
 | .nils, .nils => true
 | .nile, .nile => true
 | .arr a, .arr b => beqR a b
 | .sl a b c d, .sl a' b' c' d' => a == a' && b == b' && c == c' && d == d'
 | .nilm, .nilm => true
 | .map a, .map b => a == b
 | .nilf, .nilf => true
 | .fn f a b, .fn g c d => f == g && beqL a c && beqL b d
 | .nili, .nili => true
 | .ifc t a, .ifc u b => t == u && V.beq a b
 | .agg a, .agg b => beqL a b
 | .tup a, .tup b => beqL a b
 | _, _ => false
def beqL : List V → List V → Bool
 | [], [] => true
 | x :: xs, y :: ys => V.beq x y && beqL xs ys
 | _, _ => false
def beqR : List (List V) → List (List V) → Bool
 | [], [] => true
 | x :: xs, y :: ys => beqL x y && beqR xs ys
 | _, _ => false
end
def beqE : List (V × V × Nat) → List (V × V × Nat) → Bool
 | [], [] => true
 | x :: xs, y :: ys => V.beq x.1 y.1 && V.beq x.2.1 y.2.1 && x.2.2 == y.2.2 && beqE xs ys
 | _, _ => false
def Ob.beq : Ob → Ob → Bool
 | .dead, .dead => true
 | .cells a, .cells b => beqL a b
 | .row z a b c, .row z' a' b' c' => z == z' && beqR a a' && b == b' && c == c'
 | .map a b, .map c d => beqE a c && b == d
 | .defr a, .defr b => a == b
 | .iter a n, .iter b m => beqS a b && n == m
 | .resv a, .resv b => a == b
 | _, _ => false
def beqH : Heap → Heap → Bool
 | [], [] => true
 | x :: xs, y :: ys => Ob.beq x y && beqH xs ys
 | _, _ => false
def St.beq (a b : St) : Bool := beqL a.env b.env && a.marks == b.marks && beqH a.heap b.heap
/-! ### Forced: the same values, their numbers worked out (for the kernel's runs; each is the identity: EvF) -/
def fNat {α : Type} (n : Nat) (k : Nat → α) : α :=
 match n with
 | 0 => k 0
 | m + 1 => k (m + 1)
def fInt {α : Type} (n : Int) (k : Int → α) : α :=
 match n with
 | .ofNat m => fNat m fun m => k (.ofNat m)
 | .negSucc m => fNat m fun m => k (.negSucc m)
def fBool {α : Type} (b : Bool) (k : Bool → α) : α :=
 match b with
 | true => k true
 | false => k false
def fU8s {α : Type} (l : List UInt8) (k : List UInt8 → α) : α :=
 match l with
 | [] => k []
 | x :: r => fNat x.toNat fun n => fU8s r fun r' => k (UInt8.ofNat n :: r')
mutual
def fV {α : Type} (v : V) (k : V → α) : α :=
 match v with
 | .undef => k .undef
 | .bool b => fBool b fun b => k (.bool b)
 | .int q n => fInt n fun n => k (.int q n)
 | .str s => fU8s s.data.toList fun l => k (.str ⟨⟨l⟩⟩)
 | .nilp => k .nilp
 | .ptr a b => fNat a fun a => fNat b fun b => k (.ptr a b)
 | .eptr a b c d => fNat a fun a => fNat b fun b => fNat c fun c => fNat d fun d => k (.eptr a b c d)
 | .iptr cs => fL cs fun cs => k (.iptr cs)
 | .nils => k .nils
 | .nile => k .nile
 | .arr xs => fR xs fun xs => k (.arr xs)
 | .sl a b c d => fNat a fun a => fNat b fun b => fNat c fun c => fNat d fun d => k (.sl a b c d)
 | .nilm => k .nilm
 | .map a => fNat a fun a => k (.map a)
 | .nilf => k .nilf
 | .fn f a b => fL a fun a => fL b fun b => k (.fn f a b)
 | .nili => k .nili
 | .ifc t v => fV v fun v => k (.ifc t v)
 | .agg cs => fL cs fun cs => k (.agg cs)
 | .tup cs => fL cs fun cs => k (.tup cs)
def fL {α : Type} (l : List V) (k : List V → α) : α :=
 match l with
 | [] => k []
 | x :: r => fV x fun x' => fL r fun r' => k (x' :: r')
def fR {α : Type} (l : List (List V)) (k : List (List V) → α) : α :=
 match l with
 | [] => k []
 | x :: r => fL x fun x' => fR r fun r' => k (x' :: r')
end
def fS {α β : Type} (l : List β) (k : List β → α) : α :=
 match l with
 | [] => k []
 | x :: r => fS r fun r' => k (x :: r')
def fE {α : Type} (l : List (V × V × Nat)) (k : List (V × V × Nat) → α) : α :=
 match l with
 | [] => k []
 | (a, b, n) :: r => fV a fun a => fV b fun b => fNat n fun n => fE r fun r' => k ((a, b, n) :: r')
def fOb {α : Type} (o : Ob) (k : Ob → α) : α :=
 match o with
 | .dead => k .dead
 | .cells cs => fL cs fun cs => k (.cells cs)
 | .row z xs a c => fNat z fun z => fR xs fun xs => fNat a fun a => fBool c fun c => k (.row z xs a c)
 | .map es n => fE es fun es => fNat n fun n => k (.map es n)
 | .loop a b c d e f g => fL c fun c => fNat g fun g => k (.loop a b c d e f g)
 | .defr b => fBool b fun b => k (.defr b)
 | .iter s n => fU8s s.data.toList fun l => fNat n fun n => k (.iter ⟨⟨l⟩⟩ n)
 | .resv d => fNat d fun d => k (.resv d)
def fH {α : Type} (h : Heap) (k : Heap → α) : α :=
 match h with
 | [] => k []
 | x :: r => fOb x fun x' => fH r fun r' => k (x' :: r')
/-! ### Small words -/
def V.cells : V → List V
 | .agg cs => cs
 | v => [v]
def V.isCell : V → Bool
 | .undef | .agg _ | .tup _ => false
 | _ => true
abbrev V.non : V := .tup []
def eget (env : List V) (i : Nat) : V := env.getD i V.non
def Od.ev (env : List V) : Od → V
 | .t i => eget env i
 | .c v => v
def cellEq (k : Ck) (x y : V) : Option Bool :=
 match k with
 | .b =>
  match x with
  | .bool a =>
   match y with
   | .bool b => some (a == b)
   | _ => none
  | _ => none
 | .i =>
  match x with
  | .int k a =>
   match y with
   | .int l b => if k = l then some (a == b) else none
   | _ => none
  | _ => none
 | .s =>
  match x with
  | .str a =>
   match y with
   | .str b => some (beqS a b)
   | _ => none
  | _ => none
def ofCells : Option Nat → List V → Option V
 | none, c :: _ => some c
 | none, [] => none
 | some n, cs => if n ≤ cs.length then some (.agg (cs.take n)) else none
def eqdV : Eqd → V → V → Option Bool
 | .leaf k, x, y => cellEq k x y
 | .nil, _, _ => some true
 | .cons off ag d r, x, y =>
  match x with
  | .agg xs =>
   match y with
   | .agg ys =>
    match ofCells ag (xs.drop off) with
    | some a =>
     match ofCells ag (ys.drop off) with
     | some b =>
      match eqdV d a b with
      | some p =>
       match eqdV r x y with
       | some q => some (p && q)
       | none => none
      | none => none
     | none => none
    | none => none
   | _ => none
  | _ => none
def intCmp (op : BinOp) (x y : Int) : Option Bool :=
 match op with
 | .eql => some (x == y)
 | .neq => some (x != y)
 | .lss => some (decide (x < y))
 | .leq => some (decide (x ≤ y))
 | .gtr => some (decide (x > y))
 | .geq => some (decide (x ≥ y))
 | _ => none
def intBits (op : BinOp) (k : IntKind) (x y : Int) : Option Int :=
 match op with
 | .and => some (k.wrap (BitVec.ofInt k.bits x &&& BitVec.ofInt k.bits y).toNat)
 | .or => some (k.wrap (BitVec.ofInt k.bits x ||| BitVec.ofInt k.bits y).toNat)
 | .xor => some (k.wrap (BitVec.ofInt k.bits x ^^^ BitVec.ofInt k.bits y).toNat)
 | .andNot => some (k.wrap (BitVec.ofInt k.bits x &&& ~~~ (BitVec.ofInt k.bits y)).toNat)
 | _ => none
def isEq : BinOp → Bool
 | .eql | .neq => true
 | _ => false
def binV (op : BinOp) (x y : V) : Option V :=
 match x, y with
 | .int k a, .int k' b =>
  match op with
  | .shl => if b < 0 then none else some (.int k (k.wrap (a * 2 ^ (min b.toNat k.bits))))
  | .shr => if b < 0 then none else some (.int k (a.fdiv (2 ^ (min b.toNat k.bits))))
  | .add => if k = k' then some (.int k (k.wrap (a + b))) else none
  | .sub => if k = k' then some (.int k (k.wrap (a - b))) else none
  | .mul => if k = k' then some (.int k (k.wrap (a * b))) else none
  | .quo => if k = k' then (if b = 0 then none else some (.int k (k.wrap (a.tdiv b)))) else none
  | .rem => if k = k' then (if b = 0 then none else some (.int k (a.tmod b))) else none
  | .and => if k = k' then (intBits .and k a b).map (.int k) else none
  | .or => if k = k' then (intBits .or k a b).map (.int k) else none
  | .xor => if k = k' then (intBits .xor k a b).map (.int k) else none
  | .andNot => if k = k' then (intBits .andNot k a b).map (.int k) else none
  | op => if k = k' then (intCmp op a b).map .bool else none
 | .str a, .str b =>
  match op with
  | .add => if ((a.size + b.size : Nat) : Int) > IntKind.i64.max then none else some (.str (a ++ b))
  | .eql => some (.bool (beqS a b))
  | .neq => some (.bool (!(beqS a b)))
  | .lss => some (.bool (Op.bytesLess a.data.toList b.data.toList))
  | .gtr => some (.bool (!(Op.bytesLess a.data.toList b.data.toList || beqS a b)))
  | .leq => some (.bool (Op.bytesLess a.data.toList b.data.toList || beqS a b))
  | .geq => some (.bool (!Op.bytesLess a.data.toList b.data.toList))
  | _ => none
 | _, _ => none
def nilOf (k : Lk) (x : V) : Option Bool :=
 match k with
 | .p =>
  match x with
  | .nilp => some true
  | .ptr _ _ | .eptr _ _ _ _ | .iptr _ => some false
  | _ => none
 | .l =>
  match x with
  | .nils => some true
  | .sl _ _ _ _ | .arr (_ :: _) => some false
  | _ => none
 | .m =>
  match x with
  | .nilm => some true
  | .map _ => some false
  | _ => none
 | .f =>
  match x with
  | .nilf => some true
  | .fn _ _ _ => some false
  | _ => none
 | .s => none
def eqnV (k : Lk) (x y : V) : Option Bool :=
 match nilOf k x with
 | some true => nilOf k y
 | some false =>
  match nilOf k y with
  | some true => some false
  | _ => none
 | none => none
def unV (op : UnOp) (x : V) : Option V :=
 match op, x with
 | .not, .bool b => some (.bool (!b))
 | .neg, .int k n => some (.int k (k.wrap (0 - n)))
 | .xor, .int k n => (intBits .xor k (if k.signed then -1 else k.max) n).map (.int k)
 | _, _ => none
def bytesOf (s : ByteArray) : List (List V) := s.data.toList.map fun b => [.int .u8 b.toNat]
def byteOfCells : List (List V) → Option (List UInt8)
 | [] => some []
 | [.int .u8 n] :: r => (byteOfCells r).map (UInt8.ofNat n.toNat :: ·)
 | _ => none
def elemsOf (h : Heap) : V → Option (List (List V))
 | .nils => some []
 | .nile => some []
 | .arr xs => some xs
 | .str s => some (bytesOf s)
 | .sl id ep off len =>
  match h[id]? with
  | some (.row _ xs cur _) => if ep = cur ∧ off + len ≤ xs.length then some ((xs.drop off).take len) else none
  | _ => none
 | _ => none
def lenV (k : Lk) (h : Heap) (x : V) : Option Nat :=
 match k with
 | .s =>
  match x with
  | .str s => some s.size
  | _ => none
 | .l =>
  match x with
  | .nils => some 0
  | .nile => some 0
  | .arr xs => some xs.length
  | .sl _ _ _ len => some len
  | _ => none
 | .m =>
  match x with
  | .nilm => some 0
  | .map id =>
   match h[id]? with
   | some (.map es _) => some es.length
   | _ => none
  | _ => none
 | _ => none
def cellsAt (h : Heap) : V → Option (List V)
 | .ptr id off =>
  match h[id]? with
  | some (.cells cs) => some (cs.drop off)
  | _ => none
 | .eptr id ep idx off =>
  match h[id]? with
  | some (.row _ xs cur _) => if ep = cur then (xs[idx]?).map (·.drop off) else none
  | _ => none
 | .iptr cs => some cs
 | _ => none
def setRange (cs : List V) (off : Nat) (ys : List V) : Option (List V) :=
 if off + ys.length ≤ cs.length then some (cs.take off ++ ys ++ cs.drop (off + ys.length)) else none
def iaddrV (h : Heap) (sz : Nat) (x i : V) : Option V :=
 match i with
 | .int _ n =>
  match x with
  | .arr xs =>
   if 0 ≤ n ∧ n < xs.length then
    match xs[n.toNat]? with
    | some e => if e.length = sz then some (.iptr e) else none
    | none => none
   else none
  | .sl id ep off len =>
   if 0 ≤ n ∧ n < len then
    match h[id]? with
    | some (.row z xs cur _) =>
     if ep = cur ∧ z = sz ∧ off + n.toNat < xs.length then some (.eptr id ep (off + n.toNat) 0) else none
    | _ => none
   else none
  | _ => none
 | _ => none
def faddrV (off : Nat) : V → Option V
 | .ptr id o => some (.ptr id (o + off))
 | .eptr id ep idx o => some (.eptr id ep idx (o + off))
 | .iptr cs => if off ≤ cs.length then some (.iptr (cs.drop off)) else none
 | _ => none
def bound (x : V) (y : Nat) : Option Nat :=
 match x with
 | .int _ n => if 0 ≤ n ∧ n ≤ y then some n.toNat else none
 | _ => none
def lohi (len most : Nat) (lo hi : Option V) : Option (Nat × Nat) :=
 match (match hi with | some v => bound v most | none => some len) with
 | none => none
 | some h =>
  match (match lo with | some v => bound v h | none => some 0) with
  | none => none
  | some l => some (l, h)
def szOk (sz : Nat) (xs : List (List V)) : Bool := xs.all fun e => e.length == sz
def sliceS (x : V) (lo hi : Option V) : Option V :=
 match x with
 | .str s =>
  match lohi s.size s.size lo hi with
  | some p => some (.str (s.extract p.1 p.2))
  | none => none
 | _ => none
def sliceL (h : Heap) (sz : Nat) (x : V) (lo hi : Option V) : Option V :=
 match x with
 | .nils =>
  match lohi 0 0 lo hi with
  | some _ => some .nils
  | none => none
 | .nile =>
  match lohi 0 0 lo hi with
  | some _ => some .nile
  | none => none
 | .arr xs =>
  if szOk sz xs then
   match lohi xs.length xs.length lo hi with
   | some p => some (.arr ((xs.take p.2).drop p.1))
   | none => none
  else none
 | .sl id ep off len =>
  match h[id]? with
  | some (.row z xs cur _) =>
   if ep = cur ∧ z = sz then
    match lohi len (max len (xs.length - off)) lo hi with
    | some p => some (.sl id ep (off + p.1) (p.2 - p.1))
    | none => none
   else none
  | _ => none
 | _ => none
def sliceV (k : Lk) (h : Heap) (sz : Nat) (x : V) (lo hi : Option V) : Option V :=
 match k with
 | .s => sliceS x lo hi
 | .l => sliceL h sz x lo hi
 | _ => none
def findKey (ks : Eqd) (k : V) : List (V × V × Nat) → Nat → Option (Option (Nat × V))
 | [], _ => some none
 | e :: es, i =>
  match eqdV ks k e.1 with
  | some true => some (some (i, e.2.1))
  | some false => findKey ks k es (i + 1)
  | none => none
def V.scalar : V → Bool
 | .bool _ | .int _ _ | .str _ => true
 | _ => false
def sameKey (k : V) (es : List (V × V × Nat)) (i : Nat) : Bool :=
 match es[i]? with
 | some e => V.beq e.1 k && k.cells.all V.scalar
 | none => false
def keyOk (ks : Eqd) (k : V) : Bool := eqdV ks k k == some true
def roomB : Nat := 140737488355328
def placeParts (cs : List V) : List (Nat × Nat × V) → Option (List V)
 | [] => some cs
 | (off, sz, v) :: r =>
  if v.cells.length = sz ∧ v.cells.all V.isCell then
   match setRange cs off v.cells with
   | some cs' => placeParts cs' r
   | none => none
  else none
def chunks (sz : Nat) : Nat → List V → List (List V)
 | 0, _ => []
 | n + 1, cs => cs.take sz :: chunks sz n (cs.drop sz)
def foldInt (f : Int → Int → Int) : List V → Option V
 | [] => none
 | .int k a :: r => go k a r
 | _ => none
where
 go (k : IntKind) (a : Int) : List V → Option V
  | [] => some (.int k a)
  | .int k' b :: r => if k = k' then go k (f a b) r else none
  | _ => none
def mapH {α β : Type} (f : Heap → α → Option (β × Heap)) (h : Heap) : List α → Option (List β × Heap)
 | [] => some ([], h)
 | v :: r =>
  match f h v with
  | none => none
  | some (v', h1) =>
   match mapH f h1 r with
   | none => none
   | some (r', h2) => some (v' :: r', h2)
def isYield : Fn → Bool
 | .yield _ => true
 | _ => false
def fz : Nat → Heap → V → Option (V × Heap)
 | 0, _, _ => none
 | d + 1, h, v =>
  match v with
  | .undef | .ptr .. | .eptr .. | .map _ => none
  | .bool b => some (.bool b, h)
  | .int k n => some (.int k n, h)
  | .str s => some (.str s, h)
  | .nilp => some (.nilp, h)
  | .iptr cs => some (.iptr cs, h)
  | .arr xs => some (.arr xs, h)
  | .nilm => some (.nilm, h)
  | .nilf => some (.nilf, h)
  | .nili => some (.nili, h)
  | .nils => some (.arr [], h)
  | .nile => some (.arr [], h)
  | .sl id ep off len =>
   match h[id]? with
   | some (.row z xs cur _) =>
    if ep = cur ∧ off + len ≤ xs.length then
     (mapH (mapH (fz d)) (h.set id (.row z xs cur false)) ((xs.drop off).take len)).map fun p => (.arr p.1, p.2)
    else none
   | _ => none
  | .fn f first caps =>
   if isYield f then none
   else
    match mapH (fz d) h first with
    | none => none
    | some (first', h1) => (mapH (fz d) h1 caps).map fun p => (.fn f first' p.1, p.2)
  | .ifc t x => (fz d h x).map fun p => (.ifc t p.1, p.2)
  | .agg cs => (mapH (fz d) h cs).map fun p => (.agg p.1, p.2)
  | .tup cs => (mapH (fz d) h cs).map fun p => (.tup p.1, p.2)
/-! ### Operations -/
abbrev VH := Option (V × Heap)
def okV (h : Heap) (v : Option V) : VH :=
 match v with
 | some v => fV v fun v => some (v, h)
 | none => none
def okCells (h : Heap) (ag : Option Nat) (cs : Option (List V)) : VH :=
 match cs with
 | some cs =>
  match ag with
  | some n => if n ≤ cs.length then fS (cs.take n) fun l => some (.agg l, h) else none
  | none =>
   match cs with
   | c :: _ => some (c, h)
   | [] => none
 | none => none
def newOb (h : Heap) (v : V) (o : Ob) : VH := fOb o fun o => fS (h ++ [o]) fun h => some (v, h)
def setOb (h : Heap) (id : Nat) (v : V) (o : Ob) : VH := fOb o fun o => fS (h.set id o) fun h => some (v, h)
def evPick (env : List V) (h : Heap) (c a b : Od) : VH :=
 match c.ev env with
 | .bool t => if t then some (a.ev env, h) else some (b.ev env, h)
 | _ => none
def evBox (h : Heap) (cs : List V) : VH :=
 if cs.all V.isCell then newOb h (.ptr h.length 0) (.cells cs) else none
def evBuild (h : Heap) (zero : List V) (parts : List (Nat × Nat × V)) : VH :=
 match placeParts zero parts with
 | some cs => fS cs fun cs => some (.agg cs, h)
 | none => none
def evBslice (h : Heap) (zero : List V) (len sz : Nat) (parts : List (Nat × V)) : VH :=
 match placeParts (List.replicate len zero).flatten (parts.map fun p => (p.1 * sz, sz, p.2)) with
 | some cs => newOb h (.sl h.length 0 0 len) (.row sz (chunks sz len cs) 0 true)
 | none => none
def evStore (h : Heap) (p : V) (ys : List V) : VH :=
 match p with
 | .ptr id off =>
  match h[id]? with
  | some (.cells cs) =>
   match setRange cs off ys with
   | some cs' => setOb h id V.non (.cells cs')
   | none => none
  | _ => none
 | .eptr id ep idx off =>
  match h[id]? with
  | some (.row z xs cur true) =>
   if ep = cur then
    match xs[idx]? with
    | some e =>
     match setRange e off ys with
     | some e' => setOb h id V.non (.row z (xs.set idx e') cur true)
     | none => none
    | none => none
   else none
  | _ => none
 | _ => none
def evStoreV (h : Heap) (n : Nat) (p v : V) : VH :=
 if v.cells.length = n ∧ v.cells.all V.isCell then evStore h p v.cells else none
def evEqc (h : Heap) (neg : Bool) (d : Eqd) (x y : V) : VH :=
 match eqdV d x y with
 | some r => okV h (some (.bool (r != neg)))
 | none => none
def evEqn (h : Heap) (k : Lk) (neg : Bool) (x y : V) : VH :=
 match eqnV k x y with
 | some r => okV h (some (.bool (r != neg)))
 | none => none
def bytesIn (h : Heap) (v : V) : Option (List (List V)) :=
 match v with
 | .str _ => none
 | v => elemsOf h v
def evConv (h : Heap) (d : Cv) (v : V) : VH :=
 match d with
 | .int k =>
  match v with
  | .int _ n => okV h (some (.int k (k.wrap n)))
  | _ => none
 | .same =>
  match v with
  | .str s => some (.str s, h)
  | _ => none
 | .bytesStr =>
  match bytesIn h v with
  | some es =>
   match byteOfCells es with
   | some l => okV h (some (.str ⟨l.toArray⟩))
   | none => none
  | none => none
 | .strBytes =>
  match v with
  | .str s => if s.size * 1 ≤ roomB then newOb h (.sl h.length 0 0 s.size) (.row 1 (bytesOf s) 0 true) else none
  | _ => none
def evField (h : Heap) (off : Nat) (ag : Option Nat) (v : V) : VH :=
 match v with
 | .agg cs => okCells h ag (some (cs.drop off))
 | _ => none
def evIaddrA (h : Heap) (len sz : Nat) (x i : V) : VH :=
 match i with
 | .int _ n => if 0 ≤ n ∧ n < len then okV h (faddrV (n.toNat * sz) x) else none
 | _ => none
def evIdxS (h : Heap) (x i : V) : VH :=
 match x with
 | .str s =>
  match i with
  | .int _ n =>
   if 0 ≤ n then
    match s[n.toNat]? with
    | some b => okV h (some (.int .u8 b.toNat))
    | none => none
   else none
  | _ => none
 | _ => none
def evIdxA (h : Heap) (len sz : Nat) (ag : Option Nat) (x i : V) : VH :=
 match x with
 | .agg cs =>
  match i with
  | .int _ n => if 0 ≤ n ∧ n < len then okCells h ag (some (cs.drop (n.toNat * sz))) else none
  | _ => none
 | _ => none
def evExt (h : Heap) (x : V) (i : Nat) : VH :=
 match x with
 | .tup vs =>
  match vs[i]? with
  | some v => some (v, h)
  | none => none
 | _ => none
def evMks (h : Heap) (zero : List V) (sz bytes : Nat) (len cap : V) : VH :=
 match len with
 | .int _ n =>
  match cap with
  | .int _ m =>
   if 0 ≤ n ∧ n ≤ m ∧ m * bytes ≤ roomB then
    fNat n.toNat fun l => newOb h (.sl h.length 0 0 l) (.row sz (List.replicate l zero) 0 true)
   else none
  | _ => none
 | _ => none
def found (ok : Bool) (v : V) (b : Bool) (h : Heap) : VH := if ok then some (.tup [v, .bool b], h) else some (v, h)
def evLook (h : Heap) (ks : Eqd) (ok : Bool) (zero : V) (m key : V) : VH :=
 if keyOk ks key then
  match m with
  | .nilm => found ok zero false h
  | .map id =>
   match h[id]? with
   | some (.map es _) =>
    match findKey ks key es 0 with
    | some (some (_, v)) => found ok v true h
    | some none => found ok zero false h
    | none => none
   | _ => none
  | _ => none
 else none
def evMapup (h : Heap) (ks : Eqd) (m key x : V) : VH :=
 if keyOk ks key then
  match m with
  | .map id =>
   match h[id]? with
   | some (.map es clock) =>
    match findKey ks key es 0 with
    | some (some (i, _)) =>
     if sameKey key es i then setOb h id V.non (.map (es.modify i fun e => (key, x, e.2.2)) clock) else none
    | some none => setOb h id V.non (.map (es ++ [(key, x, clock)]) (clock + 1))
    | none => none
   | _ => none
  | _ => none
 else none
def evMapent (h : Heap) (ks : Eqd) (zero : V) (m key : V) : VH :=
 if keyOk ks key then
  match m with
  | .map id =>
   match h[id]? with
   | some (.map es clock) =>
    match findKey ks key es 0 with
    | some (some (i, v)) =>
     if sameKey key es i then
      fNat (((es[i]?).map (·.2.2)).getD 0) fun b => setOb h id (.tup [v, .int .i64 b]) (.map (es.modify i fun e => (key, e.2)) clock)
     else none
    | some none => fNat clock fun clock => setOb h id (.tup [zero, .int .i64 clock]) (.map (es ++ [(key, zero, clock)]) (clock + 1))
    | none => none
   | _ => none
  | _ => none
 else none
def evEntst (h : Heap) (m s x : V) : VH :=
 match m with
 | .map id =>
  match s with
  | .int _ n =>
   match h[id]? with
   | some (.map es clock) =>
    match es.findIdx? (fun e => (e.2.2 : Int) == n) with
    | some i => setOb h id V.non (.map (es.modify i fun e => (e.1, x, e.2.2)) clock)
    | none => none
   | _ => none
  | _ => none
 | _ => none
def evLen (h : Heap) (k : Lk) (x : V) : VH :=
 match lenV k h x with
 | some n => fNat n fun n => some (.int .i64 n, h)
 | none => none
def evApp (h : Heap) (sz bytes : Nat) (s x : V) : VH :=
 match elemsOf h x with
 | none => none
 | some es =>
  match s with
  | .nils =>
   match es with
   | [] => some (.nils, h)
   | _ :: _ =>
    if es.length * bytes ≤ roomB ∧ szOk sz es then
     fNat es.length fun n => newOb h (.sl h.length 0 0 n) (.row sz es 0 true)
    else none
  | .nile =>
   match es with
   | [] => some (.nile, h)
   | _ :: _ =>
    if es.length * bytes ≤ roomB ∧ szOk sz es then
     fNat es.length fun n => newOb h (.sl h.length 0 0 n) (.row sz es 0 true)
    else none
  | .sl id ep off len =>
   match h[id]? with
   | some (.row z xs cur wr) =>
    match es with
    | [] => some (.sl id ep off len, h)
    | _ :: _ =>
     if ep = cur ∧ z = sz ∧ (len + es.length) * bytes ≤ roomB ∧ szOk sz es then
      if off + len = xs.length then
       fNat (len + es.length) fun n => setOb h id (.sl id (cur + 1) off n) (.row z (xs ++ es) (cur + 1) wr)
      else if off + len + es.length ≤ xs.length ∧ wr = true then
       fNat (len + es.length) fun n => setOb h id (.sl id ep off n) (.row z (xs.take (off + len) ++ es ++ xs.drop (off + len + es.length)) cur true)
      else none
     else none
   | _ => none
  | _ => none
def elemsTo (h : Heap) (m : Nat) (x : V) : Option (List (List V)) :=
 match x with
 | .sl id ep off len => if m ≤ len then elemsOf h (.sl id ep off m) else none
 | x =>
  match elemsOf h x with
  | some es => if m ≤ es.length then some (es.take m) else none
  | none => none
def lenAny (h : Heap) (x : V) : Option Nat :=
 match x with
 | .str s => some s.size
 | x => lenV .l h x
def evCopy (h : Heap) (sz : Nat) (d x : V) : VH :=
 match lenAny h x with
 | none => none
 | some l =>
  match lenV .l h d with
  | none => none
  | some m =>
   fNat (min l m) fun n =>
    if n = 0 then some (.int .i64 0, h)
    else
     match elemsTo h n x with
     | none => none
     | some es =>
      match d with
      | .sl id ep off len =>
       match h[id]? with
       | some (.row z xs cur true) =>
        if ep = cur ∧ z = sz ∧ off ≤ xs.length ∧ szOk sz es then
         setOb h id (.int .i64 n) (.row z (xs.take off ++ es ++ xs.drop (off + n)) cur true)
        else none
       | _ => none
      | _ => none
def evDel (h : Heap) (ks : Eqd) (m key : V) : VH :=
 if keyOk ks key then
  match m with
  | .map id =>
   match h[id]? with
   | some (.map es clock) =>
    match findKey ks key es 0 with
    | some (some (i, _)) => setOb h id V.non (.map (es.eraseIdx i) clock)
    | some none => some (V.non, h)
    | none => none
   | _ => none
  | _ => none
 else none
def evNilchk (h : Heap) (x : V) : VH :=
 match x with
 | .ptr id off => some (.ptr id off, h)
 | .eptr id ep idx off => some (.eptr id ep idx off, h)
 | .iptr cs => some (.iptr cs, h)
 | .fn f a b =>
  match f with
  | .func f => some (.fn (.func f) a b, h)
  | .yield l => some (.fn (.yield l) a b, h)
  | _ => none
 | _ => none
def evSl3 (h : Heap) (x : V) (lo : Option V) (hi mx : V) : VH :=
 match lenV .l h x with
 | some n =>
  match bound mx n with
  | some m =>
   match lohi m m lo (some hi) with
   | some _ => some (.undef, h)
   | none => none
  | none => none
 | none => none
def evClr (h : Heap) (sz : Nat) (zero : List V) (x : V) : VH :=
 match x with
 | .nils => some (V.non, h)
 | .sl id ep off len =>
  if len = 0 then some (V.non, h)
  else
   match h[id]? with
   | some (.row z xs cur true) =>
    if ep = cur ∧ z = sz ∧ off + len ≤ xs.length ∧ zero.length = sz then
     setOb h id V.non (.row z (xs.take off ++ List.replicate len zero ++ xs.drop (off + len)) cur true)
    else none
   | _ => none
 | _ => none
def scal : V → Bool
 | .bool _ | .int _ _ | .str _ | .nilp | .iptr _ | .arr _ | .nilm | .nilf | .nili => true
 | _ => false
def evCln (h : Heap) (sz bytes : Nat) (x : V) : VH :=
 match elemsOf h x with
 | none => none
 | some [] =>
  match x with
  | .nils => some (.nils, h)
  | .str _ => none
  | _ => some (.nile, h)
 | some (e :: es) =>
  match x with
  | .str _ => none
  | _ =>
   if (e :: es).length * bytes ≤ roomB ∧ szOk sz (e :: es) then
    fNat (e :: es).length fun n => newOb h (.sl h.length 1 0 n) (.row sz (e :: es) 1 true)
   else none
def evIns (h : Heap) (sz bytes : Nat) (s i x : V) : VH :=
 match i with
 | .int .i64 n =>
  match lenV .l h s with
  | some l =>
   if n = l then
    match lenV .l h x with
    | some (_ + 1) => evApp h sz bytes s x
    | _ => none
   else
    match s with
    | .sl id ep off len =>
     match h[id]? with
     | some (.row z xs cur true) =>
      match x with
      | .sl jd ej oj 1 =>
       match h[jd]? with
       | some (.row zj ys cj wj) =>
        match ys[oj]? with
        | some e =>
         if (0 ≤ n ∧ n < len ∧ ep = cur ∧ z = sz ∧ off + len ≤ xs.length ∧ (len + 1) * bytes ≤ roomB) ∧ e.length = sz ∧ jd ≠ id ∧ ej = cj ∧ (xs.all fun e => e.all scal) ∧ (ys.all fun e => e.all scal) then
          setOb (h.set jd (.row zj ys cj false)) id (.sl id (cur + 1) off (len + 1)) (.row z (xs.take (off + n.toNat) ++ [e] ++ (xs.drop (off + n.toNat)).take (len - n.toNat)) (cur + 1) true)
         else none
        | none => none
       | _ => none
      | _ => none
     | _ => none
    | _ => none
  | none => none
 | _ => none
def evAtadd (h : Heap) (k : IntKind) (p d : V) : VH :=
 match p with
 | .ptr id off =>
  match d with
  | .int q n =>
   match cellsAt h (.ptr id off) with
   | some (.int r m :: _) =>
    if q = k ∧ r = k then
     match evStoreV h 1 (.ptr id off) (.int k (k.wrap (m + n))) with
     | some (_, h') => some (.int k (k.wrap (m + n)), h')
     | none => none
    else none
   | _ => none
  | _ => none
 | _ => none
def evAtld (h : Heap) (k : IntKind) (p : V) : VH :=
 match cellsAt h p with
 | some (.int r m :: _) => if r = k then some (.int k m, h) else none
 | _ => none
def evAtst (h : Heap) (k : IntKind) (p d : V) : VH :=
 match p with
 | .ptr id off =>
  match d with
  | .int q n => if q = k then evStoreV h 1 (.ptr id off) (.int k n) else none
  | _ => none
 | _ => none
def evOnceIn (h : Heap) (p f : V) : VH :=
 match f with
 | .fn (.func _) [] _ =>
  match p with
  | .ptr id off =>
   match cellsAt h (.ptr id off) with
   | some (.int .u32 0 :: .int .i32 0 :: _) => evStoreV h 1 (.ptr id (off + 1)) (.int .i32 1)
   | _ => none
  | _ => none
 | _ => none
def evOnceOut (h : Heap) (p : V) : VH :=
 match p with
 | .ptr id off =>
  match cellsAt h (.ptr id off) with
  | some (.int .u32 0 :: .int .i32 1 :: _) =>
   match evStoreV h 1 (.ptr id off) (.int .u32 1) with
   | some (_, h1) => evStoreV h1 1 (.ptr id (off + 1)) (.int .i32 0)
   | none => none
  | _ => none
 | _ => none
def evRngs (h : Heap) (x : V) : VH :=
 match x with
 | .str s => newOb h (.ptr h.length 0) (.iter s 0)
 | _ => none
def evNxt (h : Heap) (x : V) : VH :=
 match x with
 | .ptr id 0 =>
  match h[id]? with
  | some (.iter s pos) =>
   if pos < s.size then setOb h id (.tup [.bool true, .int .i64 pos, .int .i32 (Utf8.decode s pos).1]) (.iter s (pos + (Utf8.decode s pos).2))
   else some (.tup [.bool false], h)
  | _ => none
 | _ => none
def findR (d : Nat) : Heap → Nat → Option Nat → Option Nat
 | [], _, r => r
 | o :: h, i, r => findR d h (i + 1) (match o with | .resv e => if e = d then some i else r | _ => r)
def evResv (h : Heap) (ds : List Nat) : VH := fH (h ++ ds.map Ob.resv) fun h => some (V.non, h)
def evAllocD (h : Heap) (d : Nat) (zero : List V) : VH :=
 match findR d h 0 none with
 | some id => fNat id fun id => setOb h id (.ptr id 0) (.cells zero)
 | none => none
def evs (env : List V) (l : List Od) : List V := l.map (·.ev env)
def evInil (h : Heap) (neg : Bool) (x : V) : VH :=
 match x with
 | .nili => some (.bool (true != neg), h)
 | .ifc _ _ => some (.bool (false != neg), h)
 | _ => none
def strsOf : List (List V) → Option (List ByteArray)
 | [] => some []
 | [.str s] :: r => (strsOf r).map (s :: ·)
 | _ => none
def maxJ : Nat := 140737488355328
def maxA : Nat := 281474976710656
def evPrim (h : Heap) (p : Pr) (xs : List V) : VH :=
 match p with
 | .itoa =>
  match xs with
  | [.int .i64 n] => if -9223372036854775808 ≤ n ∧ n ≤ 9223372036854775807 then okV h (some (.str ⟨(Lib.itoa n).toArray⟩)) else none
  | _ => none
 | .atoi t =>
  match xs with
  | [.str s] =>
   if s.size ≤ maxA then
    match Lib.atoiAll s.data.toList with
    | .ok v => okV h (some (.tup [.int .i64 v, .nili]))
    | .range => okV h (some (.tup [.int .i64 (Lib.atoiSat s.data.toList), .ifc t (.iptr [])]))
    | _ => okV h (some (.tup [.int .i64 0, .ifc t (.iptr [])]))
   else none
  | _ => none
 | .sidx =>
  match xs with
  | [.str s, .str u] =>
   match u.data.toList with
   | [c] => okV h (some (.int .i64 (Lib.indexByte s.data.toList c)))
   | _ => none
  | _ => none
 | .sbyte =>
  match xs with
  | [.str s, .int .u8 n] => okV h (some (.int .i64 (Lib.indexByte s.data.toList n.toNat.toUInt8)))
  | _ => none
 | .join =>
  match xs with
  | [x, .str s] =>
   match bytesIn h x with
   | some es =>
    match strsOf es with
    | some l =>
     if l.length ≤ maxJ ∧ (Lib.join (l.map (·.data.toList)) s.data.toList).length ≤ maxJ then okV h (some (.str ⟨(Lib.join (l.map (·.data.toList)) s.data.toList).toArray⟩))
     else none
    | none => none
   | none => none
  | _ => none
def evOp (env : List V) (h : Heap) : Cop → VH
 | .mov x => some (x.ev env, h)
 | .pick c a b => evPick env h c a b
 | .alloc zero => newOb h (.ptr h.length 0) (.cells zero)
 | .box x => evBox h (x.ev env).cells
 | .build zero parts => evBuild h zero (parts.map fun p => (p.1, p.2.1, p.2.2.ev env))
 | .bslice zero len sz parts => evBslice h zero len sz (parts.map fun p => (p.1, p.2.ev env))
 | .load ag x => okCells h ag (cellsAt h (x.ev env))
 | .store n a x => evStoreV h n (a.ev env) (x.ev env)
 | .bin op x y => okV h (binV op (x.ev env) (y.ev env))
 | .eqc neg ps x y => evEqc h neg ps (x.ev env) (y.ev env)
 | .eqn k neg x y => evEqn h k neg (x.ev env) (y.ev env)
 | .un op x => okV h (unV op (x.ev env))
 | .conv d x => evConv h d (x.ev env)
 | .field off ag x => evField h off ag (x.ev env)
 | .faddr off x => okV h (faddrV off (x.ev env))
 | .iaddr sz x i => okV h (iaddrV h sz (x.ev env) (i.ev env))
 | .iaddrA len sz x i => evIaddrA h len sz (x.ev env) (i.ev env)
 | .idxS x i => evIdxS h (x.ev env) (i.ev env)
 | .idxA len sz ag x i => evIdxA h len sz ag (x.ev env) (i.ev env)
 | .slice k sz x lo hi => okV h (sliceV k h sz (x.ev env) (lo.map (·.ev env)) (hi.map (·.ev env)))
 | .ext x i => evExt h (x.ev env) i
 | .mki t x => some (.ifc t (x.ev env), h)
 | .mkf f first caps => fS (evs env first) fun a => fS (evs env caps) fun b => some (.fn f a b, h)
 | .mkm => newOb h (.map h.length) (.map [] 0)
 | .mks zero sz bytes len cap => evMks h zero sz bytes (len.ev env) (cap.ev env)
 | .look ks ok zero m k => evLook h ks ok zero (m.ev env) (k.ev env)
 | .mapup ks m k x => evMapup h ks (m.ev env) (k.ev env) (x.ev env)
 | .mapent ks zero m k => evMapent h ks zero (m.ev env) (k.ev env)
 | .entst m s x => evEntst h (m.ev env) (s.ev env) (x.ev env)
 | .len k x => evLen h k (x.ev env)
 | .mx xs => okV h (foldInt (fun x y => if y > x then y else x) (evs env xs))
 | .mn xs => okV h (foldInt (fun x y => if y < x then y else x) (evs env xs))
 | .app sz bytes s x => evApp h sz bytes (s.ev env) (x.ev env)
 | .copy sz d x => evCopy h sz (d.ev env) (x.ev env)
 | .del ks m k => evDel h ks (m.ev env) (k.ev env)
 | .nilchk x => evNilchk h (x.ev env)
 | .slice3 x lo hi mx => evSl3 h (x.ev env) (lo.map (·.ev env)) (hi.ev env) (mx.ev env)
 | .clr sz zero x => evClr h sz zero (x.ev env)
 | .ins sz bytes s i x => evIns h sz bytes (s.ev env) (i.ev env) (x.ev env)
 | .cln sz bytes x => evCln h sz bytes (x.ev env)
 | .atadd k x y => evAtadd h k (x.ev env) (y.ev env)
 | .atst k x y => evAtst h k (x.ev env) (y.ev env)
 | .atld k x => evAtld h k (x.ev env)
 | .onceIn x f => evOnceIn h (x.ev env) (f.ev env)
 | .onceOut x => evOnceOut h (x.ev env)
 | .rngs x => evRngs h (x.ev env)
 | .nxt x => evNxt h (x.ev env)
 | .inil neg x => evInil h neg (x.ev env)
 | .resv ds => evResv h ds
 | .allocD d zero => evAllocD h d zero
 | .halt => none
 | .prim p xs => evPrim h p (evs env xs)
 | .call _ _ => none
abbrev CallF := V → List V → Heap → Option (V × Heap)
def wanted (env : List V) (g : Option (Nat × Bool)) : Option Bool :=
 match g with
 | none => some true
 | some (j, w) =>
  match eget env j with
  | .bool b => some (b == w)
  | .tup [] => some false
  | _ => none
def putV (env : List V) (d : Option Nat) (v : V) : List V :=
 match d with
 | some i => env.set i v
 | none => env
def evCp (call : CallF) (o : Cp) (s : St) : Option St :=
 match wanted s.env o.guard with
 | some true =>
  match o.op with
  | .call f args =>
   match fS (evs s.env args) fun as => call (f.ev s.env) as s.heap with
   | some (v, h) => fS (putV s.env o.dst v) fun env => some { s with env, heap := h }
   | none => none
  | op =>
   match evOp s.env s.heap op with
   | some (v, h) => fS (putV s.env o.dst v) fun env => some { s with env, heap := h }
   | none => none
 | some false => some { s with env := putV s.env o.dst V.non }
 | none => none
def evOps (call : CallF) : List Cp → St → Option St
 | [], s => some s
 | o :: r, s =>
  match evCp call o s with
  | some s' => evOps call r s'
  | none => none
def readyL (n : Nat) (af : List (List Nat)) (listed : List Bool) : List Nat :=
 (List.range n).filter fun i => !listed.getD i true && (af.getD i []).all fun j => listed.getD j false
open Classical in
noncomputable def sameSt (a b : St) : Bool := St.beq a b || decide (a = b)
theorem xZq (a : St) : sameSt a a = true := by simp [sameSt]
noncomputable def evAny (call : CallF) (ops : List Cp) (af : List (List Nat)) (fl : List Nat) : Nat → List Bool → St → Option St
 | 0, listed, s => if readyL ops.length af listed = [] then some s else none
 | f + 1, listed, s =>
  match readyL ops.length af listed with
  | [] => some s
  | i :: is =>
   let run (j : Nat) : Option St :=
    match ops[j]? with
    | some o =>
     match evCp call o s with
     | some s' => evAny call ops af fl f (listed.set j true) s'
     | none => none
    | none => none
   match (i :: is).find? fl.contains with
   | some j => run j
   | none =>
    match run i with
    | some r => if is.all (fun j => match run j with | some r' => sameSt r' r | none => false) then some r else none
    | none => none
def rounds (body : St → Option (Ex × St)) : Nat → St → Option (Ex × St)
 | 0, _ => none
 | n + 1, s =>
  match body s with
  | some (.normal, s') => rounds body n s'
  | r => r
def evEnter (call : CallF) (f : V) (env : List V) (ps : List Nat) (asg body : Cc) (df : Nat) (h1 : Heap) (m1 : List Nat) : Option (Ex × St) :=
 match call f [.fn (.yield h1.length) [] []] (h1 ++ [Ob.loop .ready none env ps asg body df]) with
 | none => none
 | some (_, h2) =>
  match h2[h1.length]? with
  | some (.loop .busy ..) => none
  | some (.loop _ pend _ _ _ _ _) => some (pend.getD .normal, { env := env, marks := m1, heap := h2.set h1.length .dead })
  | _ => none
noncomputable def evCode (call : CallF) (lf : Nat) (rnd : Option Nat) : Cc → St → Option (Ex × St)
 | .skip, s => some (.normal, s)
 | .region ops, s => (evOps call ops s).map fun s' => (.normal, s')
 | .draw ops af fl, s =>
  (evAny call ops af (if rnd.isNone then fl else []) ops.length (List.replicate ops.length false) s).map fun s' => (.normal, s')
 | .seq a b, s =>
  match evCode call lf rnd a s with
  | some (.normal, s') => evCode call lf rnd b s'
  | r => r
 | .cond c a b, s =>
  match c.ev s.env with
  | .bool t => if t then evCode call lf rnd a s else evCode call lf rnd b s
  | _ => none
 | .block id c, s =>
  match evCode call lf rnd c s with
  | some (.exit i, s') => some (if i = id then .normal else .exit i, s')
  | r => r
 | .loop c, s => rounds (evCode call lf rnd c) lf s
 | .exit id, s => some (.exit id, s)
 | .ret, s => some (.ret, s)
 | .rfunc f ps asg body, s =>
  match f.ev s.env with
  | .fn (.func g) first caps =>
   match rnd with
   | none => evEnter call (.fn (.func g) first caps) s.env ps asg body s.heap.length (s.heap ++ [Ob.defr false]) (s.heap.length :: s.marks)
   | some l =>
    match s.heap[l]? with
    | some (.loop _ _ _ _ _ _ df) => evEnter call (.fn (.func g) first caps) s.env ps asg body df s.heap s.marks
    | _ => none
  | _ => none
def evRes (env : List V) (h : Heap) : List Rv → Option (List V)
 | [] => some []
 | .tmp t :: r => (evRes env h r).map (eget env t :: ·)
 | .cell t ag :: r =>
  match (cellsAt h (eget env t)).bind (ofCells ag), evRes env h r with
  | some v, some vs => some (v :: vs)
  | _, _ => none
def setMany (env : List V) : List Nat → List V → List V
 | i :: is, v :: vs => setMany (env.set i v) is vs
 | _, _ => env
def takeMarks (h : Heap) : List Nat → Option Heap
 | [] => some h
 | m :: r =>
  match h[m]? with
  | some (.defr false) => takeMarks (h.set m (.defr true)) r
  | _ => none
noncomputable def evBody (call : CallF) (lf : Nat) (cf : Cf) (args : List V) (h : Heap) : Option (V × Heap) :=
 if cf.ntmps < args.length then none else
 match evCode call lf none cf.body { env := args ++ List.replicate (cf.ntmps - args.length) V.non, marks := [], heap := h } with
 | some (.exit _, _) => none
 | some (_, s) =>
  match takeMarks s.heap s.marks with
  | none => none
  | some h1 =>
   match evRes s.env h1 cf.results with
   | some [v] => some (v, h1)
   | some vs => some (.tup vs, h1)
   | none => none
 | none => none
def fzDepth : Nat := 64
noncomputable def evCall (Φ : Nat → Option Cf) : Nat → CallF
 | 0, _, _, _ => none
 | n + 1, .fn (.func f) first caps, args, h =>
  match Φ f with
  | none => none
  | some cf =>
   if cf.pure then
    match mapH (fz fzDepth) h (first ++ args ++ caps) with
    | none => none
    | some (as, h1) =>
     match evBody (evCall Φ n) n cf as [] with
     | none => none
     | some (r, h2) => (fz fzDepth h2 r).map fun p => (p.1, h1)
   else evBody (evCall Φ n) n cf (first ++ args ++ caps) h
 | n + 1, .fn (.yield l) _ _, args, h =>
  match h[l]? with
  | some (.loop .ready pend env ps asg body df) =>
   if args.length = ps.length then
    match evCode (evCall Φ n) n (some l) asg { env := setMany env ps args, marks := [], heap := h } with
    | some (.normal, s1) =>
     match s1.heap[l]? with
     | some (.loop .ready pend' env' ps' asg' body' df') =>
      match evCode (evCall Φ n) n (some l) body { s1 with heap := s1.heap.set l (.loop .busy pend' env' ps' asg' body' df') } with
      | some (e, s2) =>
       match s2.heap[l]? with
       | some (.loop _ pend2 env2 ps2 asg2 body2 df2) =>
        match e with
        | .normal => some (.bool true, s2.heap.set l (.loop .ready none env2 ps2 asg2 body2 df2))
        | e => some (.bool false, s2.heap.set l (.loop .done (some e) env2 ps2 asg2 body2 df2))
       | _ => none
      | none => none
     | _ => none
    | _ => none
   else none
  | _ => none
 | _, _, _, _ => none
end Go.Ev
