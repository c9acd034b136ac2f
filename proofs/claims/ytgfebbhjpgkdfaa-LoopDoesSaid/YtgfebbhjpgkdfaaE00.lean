/- The evaluator, part 0: The abstract evaluator: values, heap, compiled code and its meaning. The compiler: a program's functions as compiled code. What abstract values and heaps say of the machine's. The abstract heap and the machine's: the invariant, and how it is kept. The forced words are identities; the evaluator's rules as rewriting rules. No conditions. -/
import Derived.CallsIn
import Derived.OrdersIn
import Derived.RangeFuncIn
import Derived.RangeFuncLeaves
import Derived.KernelRfl
import Derived.Below
namespace Go.Ev
set_option linter.unusedVariables false

/-- Abstract values. -/
inductive V where
  | undef
  | bool (b : Bool)
  | int (k : IntKind) (n : Int)
  | str (s : ByteArray)
  | nilp
  | ptr (id off : Nat)
  | eptr (id ep idx off : Nat)
  | iptr (cs : List V)
  | nils
  | arr (xs : List (List V))
  | sl (id ep off len : Nat)
  | nilm
  | map (id : Nat)
  | nilf
  | fn (f : Fn) (first caps : List V)
  | nili
  | ifc (t : Nat) (v : V)
  | agg (cs : List V)
  | tup (vs : List V)
  deriving Inhabited

/-- Operands. -/
inductive Od where
  | t (i : Nat)
  | c (v : V)
  deriving Inhabited

/-- A cell's kind, where cells are compared. -/
inductive Ck where
  | b | i | s
  deriving DecidableEq, Inhabited

/-- What '==' looks at: a cell, or parts. -/
inductive Eqd where
  | leaf (k : Ck)
  | nil
  | cons (off : Nat) (ag : Option Nat) (d r : Eqd)
  deriving Inhabited

/-- What a value is, where an operation asks by its type: a pointer, a slice, a map, a function, a text. -/
inductive Lk where
  | p | l | m | f | s
  deriving DecidableEq, Inhabited

/-- Conversions. -/
inductive Cv where
  | int (k : IntKind)
  | same
  | bytesStr
  | strBytes
  deriving Inhabited

/-- Compiled operations. -/
inductive Cop where
  | mov (x : Od)
  | pick (c a b : Od)
  | alloc (zero : List V)
  | box (x : Od)
  | build (zero : List V) (parts : List (Nat × Nat × Od))
  | bslice (zero : List V) (len sz : Nat) (parts : List (Nat × Od))
  | load (agg : Option Nat) (x : Od)
  | store (n : Nat) (a x : Od)
  | bin (op : BinOp) (x y : Od)
  | eqc (neg : Bool) (d : Eqd) (x y : Od)
  | eqn (k : Lk) (neg : Bool) (x y : Od)
  | un (op : UnOp) (x : Od)
  | conv (d : Cv) (x : Od)
  | field (off : Nat) (agg : Option Nat) (x : Od)
  | faddr (off : Nat) (x : Od)
  | iaddr (sz : Nat) (x i : Od)
  | iaddrA (len sz : Nat) (x i : Od)
  | idxS (x i : Od)
  | idxA (len sz : Nat) (agg : Option Nat) (x i : Od)
  | slice (k : Lk) (sz : Nat) (x : Od) (lo hi : Option Od)
  | ext (x : Od) (i : Nat)
  | mki (t : Nat) (x : Od)
  | mkf (f : Fn) (first caps : List Od)
  | mkm
  | mks (zero : List V) (sz bytes : Nat) (len cap : Od)
  | look (ks : Eqd) (ok : Bool) (zero : V) (m k : Od)
  | mapup (ks : Eqd) (m k x : Od)
  | mapent (ks : Eqd) (zero : V) (m k : Od)
  | entst (m s x : Od)
  | len (k : Lk) (x : Od)
  | mx (xs : List Od)
  | mn (xs : List Od)
  | app (sz bytes : Nat) (s x : Od)
  | copy (sz : Nat) (d x : Od)
  | del (ks : Eqd) (m k : Od)
  | nilchk (x : Od)
  | slice3 (x : Od) (lo : Option Od) (hi mx : Od)
  | clr (sz : Nat) (zero : List V) (x : Od)
  | ins (sz bytes : Nat) (s i x : Od)
  | atadd (k : IntKind) (x y : Od)
  | atst (k : IntKind) (x y : Od)
  | atld (k : IntKind) (x : Od)
  | onceIn (x f : Od)
  | onceOut (x : Od)
  | call (f : Od) (args : List Od)
  deriving Inhabited

structure Cp where
  dst : Option Nat
  op : Cop
  guard : Option (Nat × Bool)
  deriving Inhabited

inductive Rv where
  | tmp (t : Nat)
  | cell (t : Nat) (agg : Option Nat)
  deriving Inhabited

/-- Compiled code. -/
inductive Cc where
  | skip
  | region (ops : List Cp)
  | draw (ops : List Cp) (after : List (List Nat)) (fl : List Nat)
  | seq (a b : Cc)
  | cond (c : Od) (a b : Cc)
  | block (id : Nat) (c : Cc)
  | loop (c : Cc)
  | exit (id : Nat)
  | ret
  | rfunc (f : Od) (params : List Nat) (assign body : Cc)
  deriving Inhabited

structure Cf where
  ntmps : Nat
  results : List Rv
  body : Cc
  pure : Bool
  deriving Inhabited

inductive Ex where
  | normal
  | exit (id : Nat)
  | ret
  deriving DecidableEq, Inhabited

/-- Heap objects. -/
inductive Ob where
  | dead
  | cells (cs : List V)
  | row (sz : Nat) (xs : List (List V)) (ep : Nat) (wr : Bool)
  | map (es : List (V × V × Nat)) (clock : Nat)
  | loop (st : LoopState) (pending : Option Ex) (env : List V) (params : List Nat) (assign body : Cc) (df : Nat)
  | defr (taken : Bool)
  deriving Inhabited

abbrev Heap := List Ob

structure St where
  env : List V
  marks : List Nat
  heap : Heap
  deriving Inhabited

/-! ### The same -/
/-- Two texts. -/
def beqS (a b : ByteArray) : Bool := a.data.toList == b.data.toList

mutual
def V.beq : V → V → Bool
  | .undef, .undef => true
  | .bool a, .bool b => a == b
  | .int k a, .int l b => k == l && a == b
  | .str a, .str b => beqS a b
  | .nilp, .nilp => true
  | .ptr a b, .ptr c d => a == c && b == d
  | .eptr a b c d, .eptr a' b' c' d' => a == a' && b == b' && c == c' && d == d'
  | .iptr a, .iptr b => beqL a b
  | .nils, .nils => true
  | .arr a, .arr b => beqR a b
  | .sl a b c d, .sl a' b' c' d' => a == a' && b == b' && c == c' && d == d'
  | .nilm, .nilm => true
  | .map a, .map b => a == b
  | .nilf, .nilf => true
  | .fn f a b, .fn g c d => f == g && beqL a c && beqL b d
  | .nili, .nili => true
  | .ifc t a, .ifc u b => t == u && V.beq a b
  | .agg a, .agg b => beqL a b
  | .tup a, .tup b => beqL a b
  | _, _ => false
def beqL : List V → List V → Bool
  | [], [] => true
  | x :: xs, y :: ys => V.beq x y && beqL xs ys
  | _, _ => false
def beqR : List (List V) → List (List V) → Bool
  | [], [] => true
  | x :: xs, y :: ys => beqL x y && beqR xs ys
  | _, _ => false
end
def beqE : List (V × V × Nat) → List (V × V × Nat) → Bool
  | [], [] => true
  | x :: xs, y :: ys => V.beq x.1 y.1 && V.beq x.2.1 y.2.1 && x.2.2 == y.2.2 && beqE xs ys
  | _, _ => false
def Ob.beq : Ob → Ob → Bool
  | .dead, .dead => true
  | .cells a, .cells b => beqL a b
  | .row z a b c, .row z' a' b' c' => z == z' && beqR a a' && b == b' && c == c'
  | .map a b, .map c d => beqE a c && b == d
  | .defr a, .defr b => a == b
  | _, _ => false
def beqH : Heap → Heap → Bool
  | [], [] => true
  | x :: xs, y :: ys => Ob.beq x y && beqH xs ys
  | _, _ => false
def St.beq (a b : St) : Bool := beqL a.env b.env && a.marks == b.marks && beqH a.heap b.heap

/-! ### Forced: the same values, their numbers worked out (for the kernel's runs; each is the identity: EvF) -/
def fNat {α : Type} (n : Nat) (k : Nat → α) : α :=
  match n with
  | 0 => k 0
  | m + 1 => k (m + 1)
def fInt {α : Type} (n : Int) (k : Int → α) : α :=
  match n with
  | .ofNat m => fNat m fun m => k (.ofNat m)
  | .negSucc m => fNat m fun m => k (.negSucc m)
def fBool {α : Type} (b : Bool) (k : Bool → α) : α :=
  match b with
  | true => k true
  | false => k false
def fU8s {α : Type} (l : List UInt8) (k : List UInt8 → α) : α :=
  match l with
  | [] => k []
  | x :: r => fNat x.toNat fun n => fU8s r fun r' => k (UInt8.ofNat n :: r')
mutual
def fV {α : Type} (v : V) (k : V → α) : α :=
  match v with
  | .undef => k .undef
  | .bool b => fBool b fun b => k (.bool b)
  | .int q n => fInt n fun n => k (.int q n)
  | .str s => fU8s s.data.toList fun l => k (.str ⟨⟨l⟩⟩)
  | .nilp => k .nilp
  | .ptr a b => fNat a fun a => fNat b fun b => k (.ptr a b)
  | .eptr a b c d => fNat a fun a => fNat b fun b => fNat c fun c => fNat d fun d => k (.eptr a b c d)
  | .iptr cs => fL cs fun cs => k (.iptr cs)
  | .nils => k .nils
  | .arr xs => fR xs fun xs => k (.arr xs)
  | .sl a b c d => fNat a fun a => fNat b fun b => fNat c fun c => fNat d fun d => k (.sl a b c d)
  | .nilm => k .nilm
  | .map a => fNat a fun a => k (.map a)
  | .nilf => k .nilf
  | .fn f a b => fL a fun a => fL b fun b => k (.fn f a b)
  | .nili => k .nili
  | .ifc t v => fV v fun v => k (.ifc t v)
  | .agg cs => fL cs fun cs => k (.agg cs)
  | .tup cs => fL cs fun cs => k (.tup cs)
def fL {α : Type} (l : List V) (k : List V → α) : α :=
  match l with
  | [] => k []
  | x :: r => fV x fun x' => fL r fun r' => k (x' :: r')
def fR {α : Type} (l : List (List V)) (k : List (List V) → α) : α :=
  match l with
  | [] => k []
  | x :: r => fL x fun x' => fR r fun r' => k (x' :: r')
end
/-- A list's spine. -/
def fS {α β : Type} (l : List β) (k : List β → α) : α :=
  match l with
  | [] => k []
  | x :: r => fS r fun r' => k (x :: r')
def fE {α : Type} (l : List (V × V × Nat)) (k : List (V × V × Nat) → α) : α :=
  match l with
  | [] => k []
  | (a, b, n) :: r => fV a fun a => fV b fun b => fNat n fun n => fE r fun r' => k ((a, b, n) :: r')
def fOb {α : Type} (o : Ob) (k : Ob → α) : α :=
  match o with
  | .dead => k .dead
  | .cells cs => fL cs fun cs => k (.cells cs)
  | .row z xs a c => fNat z fun z => fR xs fun xs => fNat a fun a => fBool c fun c => k (.row z xs a c)
  | .map es n => fE es fun es => fNat n fun n => k (.map es n)
  | .loop a b c d e f g => fL c fun c => fNat g fun g => k (.loop a b c d e f g)
  | .defr b => fBool b fun b => k (.defr b)
def fH {α : Type} (h : Heap) (k : Heap → α) : α :=
  match h with
  | [] => k []
  | x :: r => fOb x fun x' => fH r fun r' => k (x' :: r')

/-! ### Small words -/
def V.cells : V → List V
  | .agg cs => cs
  | v => [v]

/-- A value that one cell can hold. -/
def V.isCell : V → Bool
  | .undef | .agg _ | .tup _ => false
  | _ => true

/-- What a temporary holds that holds nothing. -/
abbrev V.non : V := .tup []

def eget (env : List V) (i : Nat) : V := env.getD i V.non

def Od.ev (env : List V) : Od → V
  | .t i => eget env i
  | .c v => v

/-- One cell against another. -/
def cellEq (k : Ck) (x y : V) : Option Bool :=
  match k with
  | .b =>
    match x with
    | .bool a =>
      match y with
      | .bool b => some (a == b)
      | _ => none
    | _ => none
  | .i =>
    match x with
    | .int k a =>
      match y with
      | .int l b => if k = l then some (a == b) else none
      | _ => none
    | _ => none
  | .s =>
    match x with
    | .str a =>
      match y with
      | .str b => some (beqS a b)
      | _ => none
    | _ => none

/-- The value of some cells: a struct's, or one. -/
def ofCells : Option Nat → List V → Option V
  | none, c :: _ => some c
  | none, [] => none
  | some n, cs => if n ≤ cs.length then some (.agg (cs.take n)) else none

/-- Two values, by what is looked at. -/
def eqdV : Eqd → V → V → Option Bool
  | .leaf k, x, y => cellEq k x y
  | .nil, _, _ => some true
  | .cons off ag d r, x, y =>
    match x with
    | .agg xs =>
      match y with
      | .agg ys =>
        match ofCells ag (xs.drop off) with
        | some a =>
          match ofCells ag (ys.drop off) with
          | some b =>
            match eqdV d a b with
            | some p =>
              match eqdV r x y with
              | some q => some (p && q)
              | none => none
            | none => none
          | none => none
        | none => none
      | _ => none
    | _ => none

def intCmp (op : BinOp) (x y : Int) : Option Bool :=
  match op with
  | .eql => some (x == y)
  | .neq => some (x != y)
  | .lss => some (decide (x < y))
  | .leq => some (decide (x ≤ y))
  | .gtr => some (decide (x > y))
  | .geq => some (decide (x ≥ y))
  | _ => none

def intBits (op : BinOp) (k : IntKind) (x y : Int) : Option Int :=
  match op with
  | .and => some (k.wrap (BitVec.ofInt k.bits x &&& BitVec.ofInt k.bits y).toNat)
  | .or => some (k.wrap (BitVec.ofInt k.bits x ||| BitVec.ofInt k.bits y).toNat)
  | .xor => some (k.wrap (BitVec.ofInt k.bits x ^^^ BitVec.ofInt k.bits y).toNat)
  | .andNot => some (k.wrap (BitVec.ofInt k.bits x &&& ~~~ (BitVec.ofInt k.bits y)).toNat)
  | _ => none

def isEq : BinOp → Bool
  | .eql | .neq => true
  | _ => false

def binV (op : BinOp) (x y : V) : Option V :=
  match x, y with
  | .int k a, .int k' b =>
    match op with
    | .shl => if b < 0 then none else some (.int k (k.wrap (a * 2 ^ (min b.toNat k.bits))))
    | .shr => if b < 0 then none else some (.int k (a.fdiv (2 ^ (min b.toNat k.bits))))
    | .add => if k = k' then some (.int k (k.wrap (a + b))) else none
    | .sub => if k = k' then some (.int k (k.wrap (a - b))) else none
    | .mul => if k = k' then some (.int k (k.wrap (a * b))) else none
    | .quo => if k = k' then (if b = 0 then none else some (.int k (k.wrap (a.tdiv b)))) else none
    | .rem => if k = k' then (if b = 0 then none else some (.int k (a.tmod b))) else none
    | .and => if k = k' then (intBits .and k a b).map (.int k) else none
    | .or => if k = k' then (intBits .or k a b).map (.int k) else none
    | .xor => if k = k' then (intBits .xor k a b).map (.int k) else none
    | .andNot => if k = k' then (intBits .andNot k a b).map (.int k) else none
    | op => if k = k' then (intCmp op a b).map .bool else none
  | .str a, .str b =>
    match op with
    | .add => if ((a.size + b.size : Nat) : Int) > IntKind.i64.max then none else some (.str (a ++ b))
    | .eql => some (.bool (beqS a b))
    | .neq => some (.bool (!(beqS a b)))
    | .lss => some (.bool (Op.bytesLess a.data.toList b.data.toList))
    | .gtr => some (.bool (!(Op.bytesLess a.data.toList b.data.toList || beqS a b)))
    | .leq => some (.bool (Op.bytesLess a.data.toList b.data.toList || beqS a b))
    | .geq => some (.bool (!Op.bytesLess a.data.toList b.data.toList))
    | _ => none
  | _, _ => none

/-- Against nil. -/
def nilOf (k : Lk) (x : V) : Option Bool :=
  match k with
  | .p =>
    match x with
    | .nilp => some true
    | .ptr _ _ | .eptr _ _ _ _ | .iptr _ => some false
    | _ => none
  | .l =>
    match x with
    | .nils => some true
    | .sl _ _ _ _ | .arr (_ :: _) => some false
    | _ => none
  | .m =>
    match x with
    | .nilm => some true
    | .map _ => some false
    | _ => none
  | .f =>
    match x with
    | .nilf => some true
    | .fn _ _ _ => some false
    | _ => none
  | .s => none

def eqnV (k : Lk) (x y : V) : Option Bool :=
  match nilOf k x with
  | some true => nilOf k y
  | some false =>
    match nilOf k y with
    | some true => some false
    | _ => none
  | none => none

def unV (op : UnOp) (x : V) : Option V :=
  match op, x with
  | .not, .bool b => some (.bool (!b))
  | .neg, .int k n => some (.int k (k.wrap (0 - n)))
  | .xor, .int k n => (intBits .xor k (if k.signed then -1 else k.max) n).map (.int k)
  | _, _ => none

def bytesOf (s : ByteArray) : List (List V) := s.data.toList.map fun b => [.int .u8 b.toNat]

def byteOfCells : List (List V) → Option (List UInt8)
  | [] => some []
  | [.int .u8 n] :: r => (byteOfCells r).map (UInt8.ofNat n.toNat :: ·)
  | _ => none

/-- The elements that a slice (or a string, for bytes) shows. -/
def elemsOf (h : Heap) : V → Option (List (List V))
  | .nils => some []
  | .arr xs => some xs
  | .str s => some (bytesOf s)
  | .sl id ep off len =>
    match h[id]? with
    | some (.row _ xs cur _) => if ep = cur ∧ off + len ≤ xs.length then some ((xs.drop off).take len) else none
    | _ => none
  | _ => none

def lenV (k : Lk) (h : Heap) (x : V) : Option Nat :=
  match k with
  | .s =>
    match x with
    | .str s => some s.size
    | _ => none
  | .l =>
    match x with
    | .nils => some 0
    | .arr xs => some xs.length
    | .sl _ _ _ len => some len
    | _ => none
  | .m =>
    match x with
    | .nilm => some 0
    | .map id =>
      match h[id]? with
      | some (.map es _) => some es.length
      | _ => none
    | _ => none
  | _ => none

/-- The cells behind a pointer. -/
def cellsAt (h : Heap) : V → Option (List V)
  | .ptr id off =>
    match h[id]? with
    | some (.cells cs) => some (cs.drop off)
    | _ => none
  | .eptr id ep idx off =>
    match h[id]? with
    | some (.row _ xs cur _) => if ep = cur then (xs[idx]?).map (·.drop off) else none
    | _ => none
  | .iptr cs => some cs
  | _ => none

def setRange (cs : List V) (off : Nat) (ys : List V) : Option (List V) :=
  if off + ys.length ≤ cs.length then some (cs.take off ++ ys ++ cs.drop (off + ys.length)) else none

def iaddrV (h : Heap) (sz : Nat) (x i : V) : Option V :=
  match i with
  | .int _ n =>
    match x with
    | .arr xs =>
      if 0 ≤ n ∧ n < xs.length then
        match xs[n.toNat]? with
        | some e => if e.length = sz then some (.iptr e) else none
        | none => none
      else none
    | .sl id ep off len =>
      if 0 ≤ n ∧ n < len then
        match h[id]? with
        | some (.row z xs cur _) =>
          if ep = cur ∧ z = sz ∧ off + n.toNat < xs.length then some (.eptr id ep (off + n.toNat) 0) else none
        | _ => none
      else none
    | _ => none
  | _ => none

def faddrV (off : Nat) : V → Option V
  | .ptr id o => some (.ptr id (o + off))
  | .eptr id ep idx o => some (.eptr id ep idx (o + off))
  | .iptr cs => if off ≤ cs.length then some (.iptr (cs.drop off)) else none
  | _ => none

def bound (x : V) (y : Nat) : Option Nat :=
  match x with
  | .int _ n => if 0 ≤ n ∧ n ≤ y then some n.toNat else none
  | _ => none

def lohi (len most : Nat) (lo hi : Option V) : Option (Nat × Nat) :=
  match (match hi with | some v => bound v most | none => some len) with
  | none => none
  | some h =>
    match (match lo with | some v => bound v h | none => some 0) with
    | none => none
    | some l => some (l, h)

def szOk (sz : Nat) (xs : List (List V)) : Bool := xs.all fun e => e.length == sz

def sliceS (x : V) (lo hi : Option V) : Option V :=
  match x with
  | .str s =>
    match lohi s.size s.size lo hi with
    | some p => some (.str (s.extract p.1 p.2))
    | none => none
  | _ => none

def sliceL (h : Heap) (sz : Nat) (x : V) (lo hi : Option V) : Option V :=
  match x with
  | .nils =>
    match lohi 0 0 lo hi with
    | some _ => some .nils
    | none => none
  | .arr xs =>
    if szOk sz xs then
      match lohi xs.length xs.length lo hi with
      | some p => some (.arr ((xs.take p.2).drop p.1))
      | none => none
    else none
  | .sl id ep off len =>
    match h[id]? with
    | some (.row z xs cur _) =>
      if ep = cur ∧ z = sz then
        match lohi len (max len (xs.length - off)) lo hi with
        | some p => some (.sl id ep (off + p.1) (p.2 - p.1))
        | none => none
      else none
    | _ => none
  | _ => none

def sliceV (k : Lk) (h : Heap) (sz : Nat) (x : V) (lo hi : Option V) : Option V :=
  match k with
  | .s => sliceS x lo hi
  | .l => sliceL h sz x lo hi
  | _ => none

def findKey (ks : Eqd) (k : V) : List (V × V × Nat) → Nat → Option (Option (Nat × V))
  | [], _ => some none
  | e :: es, i =>
    match eqdV ks k e.1 with
    | some true => some (some (i, e.2.1))
    | some false => findKey ks k es (i + 1)
    | none => none

def V.scalar : V → Bool
  | .bool _ | .int _ _ | .str _ => true
  | _ => false

/-- Is the key there the same, cell by cell? -/
def sameKey (k : V) (es : List (V × V × Nat)) (i : Nat) : Bool :=
  match es[i]? with
  | some e => V.beq e.1 k && k.cells.all V.scalar
  | none => false

/-- Is a key of its kind? -/
def keyOk (ks : Eqd) (k : V) : Bool := eqdV ks k k == some true

def roomB : Nat := 140737488355328

def placeParts (cs : List V) : List (Nat × Nat × V) → Option (List V)
  | [] => some cs
  | (off, sz, v) :: r =>
    if v.cells.length = sz ∧ v.cells.all V.isCell then
      match setRange cs off v.cells with
      | some cs' => placeParts cs' r
      | none => none
    else none

/-- A list in rows of so many. -/
def chunks (sz : Nat) : Nat → List V → List (List V)
  | 0, _ => []
  | n + 1, cs => cs.take sz :: chunks sz n (cs.drop sz)

def foldInt (f : Int → Int → Int) : List V → Option V
  | [] => none
  | .int k a :: r => go k a r
  | _ => none
where
  go (k : IntKind) (a : Int) : List V → Option V
    | [] => some (.int k a)
    | .int k' b :: r => if k = k' then go k (f a b) r else none
    | _ => none

/-- A list, one behind the other, the heap handed on. -/
def mapH {α β : Type} (f : Heap → α → Option (β × Heap)) (h : Heap) : List α → Option (List β × Heap)
  | [] => some ([], h)
  | v :: r =>
    match f h v with
    | none => none
    | some (v', h1) =>
      match mapH f h1 r with
      | none => none
      | some (r', h2) => some (v' :: r', h2)

def isYield : Fn → Bool
  | .yield _ => true
  | _ => false

/-- A value with none of this heap: what a call of a pure function takes and gives; and the heap with what it shows frozen. -/
def fz : Nat → Heap → V → Option (V × Heap)
  | 0, _, _ => none
  | d + 1, h, v =>
    match v with
    | .undef | .ptr .. | .eptr .. | .map _ => none
    | .bool b => some (.bool b, h)
    | .int k n => some (.int k n, h)
    | .str s => some (.str s, h)
    | .nilp => some (.nilp, h)
    | .iptr cs => some (.iptr cs, h)
    | .arr xs => some (.arr xs, h)
    | .nilm => some (.nilm, h)
    | .nilf => some (.nilf, h)
    | .nili => some (.nili, h)
    | .nils => some (.arr [], h)
    | .sl id ep off len =>
      match h[id]? with
      | some (.row z xs cur _) =>
        if ep = cur ∧ off + len ≤ xs.length then
          (mapH (mapH (fz d)) (h.set id (.row z xs cur false)) ((xs.drop off).take len)).map fun p => (.arr p.1, p.2)
        else none
      | _ => none
    | .fn f first caps =>
      if isYield f then none
      else
        match mapH (fz d) h first with
        | none => none
        | some (first', h1) => (mapH (fz d) h1 caps).map fun p => (.fn f first' p.1, p.2)
    | .ifc t x => (fz d h x).map fun p => (.ifc t p.1, p.2)
    | .agg cs => (mapH (fz d) h cs).map fun p => (.agg p.1, p.2)
    | .tup cs => (mapH (fz d) h cs).map fun p => (.tup p.1, p.2)

/-! ### Operations -/
abbrev VH := Option (V × Heap)

/-- A value that was worked out. -/
def okV (h : Heap) (v : Option V) : VH :=
  match v with
  | some v => fV v fun v => some (v, h)
  | none => none
/-- Cells that were taken out of others. -/
def okCells (h : Heap) (ag : Option Nat) (cs : Option (List V)) : VH :=
  match cs with
  | some cs =>
    match ag with
    | some n => if n ≤ cs.length then fS (cs.take n) fun l => some (.agg l, h) else none
    | none =>
      match cs with
      | c :: _ => some (c, h)
      | [] => none
  | none => none
/-- A new object. -/
def newOb (h : Heap) (v : V) (o : Ob) : VH := fOb o fun o => fS (h ++ [o]) fun h => some (v, h)
/-- An object put in the place of one. -/
def setOb (h : Heap) (id : Nat) (v : V) (o : Ob) : VH := fOb o fun o => fS (h.set id o) fun h => some (v, h)

def evPick (env : List V) (h : Heap) (c a b : Od) : VH :=
  match c.ev env with
  | .bool t => if t then some (a.ev env, h) else some (b.ev env, h)
  | _ => none
def evBox (h : Heap) (cs : List V) : VH :=
  if cs.all V.isCell then newOb h (.ptr h.length 0) (.cells cs) else none
def evBuild (h : Heap) (zero : List V) (parts : List (Nat × Nat × V)) : VH :=
  match placeParts zero parts with
  | some cs => fS cs fun cs => some (.agg cs, h)
  | none => none
def evBslice (h : Heap) (zero : List V) (len sz : Nat) (parts : List (Nat × V)) : VH :=
  match placeParts (List.replicate len zero).flatten (parts.map fun p => (p.1 * sz, sz, p.2)) with
  | some cs => newOb h (.sl h.length 0 0 len) (.row sz (chunks sz len cs) 0 true)
  | none => none
def evStore (h : Heap) (p : V) (ys : List V) : VH :=
  match p with
  | .ptr id off =>
    match h[id]? with
    | some (.cells cs) =>
      match setRange cs off ys with
      | some cs' => setOb h id V.non (.cells cs')
      | none => none
    | _ => none
  | .eptr id ep idx off =>
    match h[id]? with
    | some (.row z xs cur true) =>
      if ep = cur then
        match xs[idx]? with
        | some e =>
          match setRange e off ys with
          | some e' => setOb h id V.non (.row z (xs.set idx e') cur true)
          | none => none
        | none => none
      else none
    | _ => none
  | _ => none
def evStoreV (h : Heap) (n : Nat) (p v : V) : VH :=
  if v.cells.length = n ∧ v.cells.all V.isCell then evStore h p v.cells else none
def evEqc (h : Heap) (neg : Bool) (d : Eqd) (x y : V) : VH :=
  match eqdV d x y with
  | some r => okV h (some (.bool (r != neg)))
  | none => none
def evEqn (h : Heap) (k : Lk) (neg : Bool) (x y : V) : VH :=
  match eqnV k x y with
  | some r => okV h (some (.bool (r != neg)))
  | none => none
/-- The elements of a slice that is no text. -/
def bytesIn (h : Heap) (v : V) : Option (List (List V)) :=
  match v with
  | .str _ => none
  | v => elemsOf h v
def evConv (h : Heap) (d : Cv) (v : V) : VH :=
  match d with
  | .int k =>
    match v with
    | .int _ n => okV h (some (.int k (k.wrap n)))
    | _ => none
  | .same =>
    match v with
    | .str s => some (.str s, h)
    | _ => none
  | .bytesStr =>
    match bytesIn h v with
    | some es =>
      match byteOfCells es with
      | some l => okV h (some (.str ⟨l.toArray⟩))
      | none => none
    | none => none
  | .strBytes =>
    match v with
    | .str s => if s.size * 1 ≤ roomB then newOb h (.sl h.length 0 0 s.size) (.row 1 (bytesOf s) 0 true) else none
    | _ => none
def evField (h : Heap) (off : Nat) (ag : Option Nat) (v : V) : VH :=
  match v with
  | .agg cs => okCells h ag (some (cs.drop off))
  | _ => none
def evIaddrA (h : Heap) (len sz : Nat) (x i : V) : VH :=
  match i with
  | .int _ n => if 0 ≤ n ∧ n < len then okV h (faddrV (n.toNat * sz) x) else none
  | _ => none
def evIdxS (h : Heap) (x i : V) : VH :=
  match x with
  | .str s =>
    match i with
    | .int _ n =>
      if 0 ≤ n then
        match s[n.toNat]? with
        | some b => okV h (some (.int .u8 b.toNat))
        | none => none
      else none
    | _ => none
  | _ => none
def evIdxA (h : Heap) (len sz : Nat) (ag : Option Nat) (x i : V) : VH :=
  match x with
  | .agg cs =>
    match i with
    | .int _ n => if 0 ≤ n ∧ n < len then okCells h ag (some (cs.drop (n.toNat * sz))) else none
    | _ => none
  | _ => none
def evExt (h : Heap) (x : V) (i : Nat) : VH :=
  match x with
  | .tup vs =>
    match vs[i]? with
    | some v => some (v, h)
    | none => none
  | _ => none
def evMks (h : Heap) (zero : List V) (sz bytes : Nat) (len cap : V) : VH :=
  match len with
  | .int _ n =>
    match cap with
    | .int _ m =>
      if 0 ≤ n ∧ n ≤ m ∧ m * bytes ≤ roomB then
        fNat n.toNat fun l => newOb h (.sl h.length 0 0 l) (.row sz (List.replicate l zero) 0 true)
      else none
    | _ => none
  | _ => none
def found (ok : Bool) (v : V) (b : Bool) (h : Heap) : VH := if ok then some (.tup [v, .bool b], h) else some (v, h)
def evLook (h : Heap) (ks : Eqd) (ok : Bool) (zero : V) (m key : V) : VH :=
  if keyOk ks key then
    match m with
    | .nilm => found ok zero false h
    | .map id =>
      match h[id]? with
      | some (.map es _) =>
        match findKey ks key es 0 with
        | some (some (_, v)) => found ok v true h
        | some none => found ok zero false h
        | none => none
      | _ => none
    | _ => none
  else none
def evMapup (h : Heap) (ks : Eqd) (m key x : V) : VH :=
  if keyOk ks key then
    match m with
    | .map id =>
      match h[id]? with
      | some (.map es clock) =>
        match findKey ks key es 0 with
        | some (some (i, _)) =>
          if sameKey key es i then setOb h id V.non (.map (es.modify i fun e => (key, x, e.2.2)) clock) else none
        | some none => setOb h id V.non (.map (es ++ [(key, x, clock)]) (clock + 1))
        | none => none
      | _ => none
    | _ => none
  else none
def evMapent (h : Heap) (ks : Eqd) (zero : V) (m key : V) : VH :=
  if keyOk ks key then
    match m with
    | .map id =>
      match h[id]? with
      | some (.map es clock) =>
        match findKey ks key es 0 with
        | some (some (i, v)) =>
          if sameKey key es i then
            fNat (((es[i]?).map (·.2.2)).getD 0) fun b => setOb h id (.tup [v, .int .i64 b]) (.map (es.modify i fun e => (key, e.2)) clock)
          else none
        | some none => fNat clock fun clock => setOb h id (.tup [zero, .int .i64 clock]) (.map (es ++ [(key, zero, clock)]) (clock + 1))
        | none => none
      | _ => none
    | _ => none
  else none
def evEntst (h : Heap) (m s x : V) : VH :=
  match m with
  | .map id =>
    match s with
    | .int _ n =>
      match h[id]? with
      | some (.map es clock) =>
        match es.findIdx? (fun e => (e.2.2 : Int) == n) with
        | some i => setOb h id V.non (.map (es.modify i fun e => (e.1, x, e.2.2)) clock)
        | none => none
      | _ => none
    | _ => none
  | _ => none
def evLen (h : Heap) (k : Lk) (x : V) : VH :=
  match lenV k h x with
  | some n => fNat n fun n => some (.int .i64 n, h)
  | none => none
def evApp (h : Heap) (sz bytes : Nat) (s x : V) : VH :=
  match elemsOf h x with
  | none => none
  | some es =>
    match s with
    | .nils =>
      match es with
      | [] => some (.nils, h)
      | _ :: _ =>
        if es.length * bytes ≤ roomB ∧ szOk sz es then
          fNat es.length fun n => newOb h (.sl h.length 0 0 n) (.row sz es 0 true)
        else none
    | .sl id ep off len =>
      match h[id]? with
      | some (.row z xs cur wr) =>
        match es with
        | [] => some (.sl id ep off len, h)
        | _ :: _ =>
          if ep = cur ∧ z = sz ∧ (len + es.length) * bytes ≤ roomB ∧ szOk sz es then
            if off + len = xs.length then
              fNat (len + es.length) fun n => setOb h id (.sl id (cur + 1) off n) (.row z (xs ++ es) (cur + 1) wr)
            else if off + len + es.length ≤ xs.length ∧ wr = true then
              fNat (len + es.length) fun n => setOb h id (.sl id ep off n) (.row z (xs.take (off + len) ++ es ++ xs.drop (off + len + es.length)) cur true)
            else none
          else none
      | _ => none
    | _ => none
/-- The first so many elements. -/
def elemsTo (h : Heap) (m : Nat) (x : V) : Option (List (List V)) :=
  match x with
  | .sl id ep off len => if m ≤ len then elemsOf h (.sl id ep off m) else none
  | x =>
    match elemsOf h x with
    | some es => if m ≤ es.length then some (es.take m) else none
    | none => none
/-- A slice's length, or a text's. -/
def lenAny (h : Heap) (x : V) : Option Nat :=
  match x with
  | .str s => some s.size
  | x => lenV .l h x
def evCopy (h : Heap) (sz : Nat) (d x : V) : VH :=
  match lenAny h x with
  | none => none
  | some l =>
    match lenV .l h d with
    | none => none
    | some m =>
      fNat (min l m) fun n =>
        if n = 0 then some (.int .i64 0, h)
        else
          match elemsTo h n x with
          | none => none
          | some es =>
            match d with
            | .sl id ep off len =>
              match h[id]? with
              | some (.row z xs cur true) =>
                if ep = cur ∧ z = sz ∧ off ≤ xs.length ∧ szOk sz es then
                  setOb h id (.int .i64 n) (.row z (xs.take off ++ es ++ xs.drop (off + n)) cur true)
                else none
              | _ => none
            | _ => none
def evDel (h : Heap) (ks : Eqd) (m key : V) : VH :=
  if keyOk ks key then
    match m with
    | .map id =>
      match h[id]? with
      | some (.map es clock) =>
        match findKey ks key es 0 with
        | some (some (i, _)) => setOb h id V.non (.map (es.eraseIdx i) clock)
        | some none => some (V.non, h)
        | none => none
      | _ => none
    | _ => none
  else none
def evNilchk (h : Heap) (x : V) : VH :=
  match x with
  | .ptr id off => some (.ptr id off, h)
  | .eptr id ep idx off => some (.eptr id ep idx off, h)
  | .iptr cs => some (.iptr cs, h)
  | .fn f a b =>
    match f with
    | .func f => some (.fn (.func f) a b, h)
    | .yield l => some (.fn (.yield l) a b, h)
    | _ => none
  | _ => none

/-- A slice of three indexes: its bounds alone; what it shows is not told. -/
def evSl3 (h : Heap) (x : V) (lo : Option V) (hi mx : V) : VH :=
  match lenV .l h x with
  | some n =>
    match bound mx n with
    | some m =>
      match lohi m m lo (some hi) with
      | some _ => some (.undef, h)
      | none => none
    | none => none
  | none => none
def evClr (h : Heap) (sz : Nat) (zero : List V) (x : V) : VH :=
  match x with
  | .nils => some (V.non, h)
  | .sl id ep off len =>
    if len = 0 then some (V.non, h)
    else
      match h[id]? with
      | some (.row z xs cur true) =>
        if ep = cur ∧ z = sz ∧ off + len ≤ xs.length ∧ zero.length = sz then
          setOb h id V.non (.row z (xs.take off ++ List.replicate len zero ++ xs.drop (off + len)) cur true)
        else none
      | _ => none
  | _ => none
/-- A value of one cell, with none of the heap. -/
def scal : V → Bool
  | .bool _ | .int _ _ | .str _ | .nilp | .iptr _ | .arr _ | .nilm | .nilf | .nili => true
  | _ => false
/-- One element, put ahead of another one. -/
def evIns (h : Heap) (sz bytes : Nat) (s i x : V) : VH :=
  match i with
  | .int .i64 n =>
    match lenV .l h s with
    | some l =>
      if n = l then
        match lenV .l h x with
        | some (_ + 1) => evApp h sz bytes s x
        | _ => none
      else
        match s with
        | .sl id ep off len =>
          match h[id]? with
          | some (.row z xs cur true) =>
            match x with
            | .sl jd ej oj 1 =>
              match h[jd]? with
              | some (.row zj ys cj wj) =>
                match ys[oj]? with
                | some e =>
                  if (0 ≤ n ∧ n < len ∧ ep = cur ∧ z = sz ∧ off + len ≤ xs.length ∧ (len + 1) * bytes ≤ roomB) ∧ e.length = sz ∧ jd ≠ id ∧ ej = cj ∧ (xs.all fun e => e.all scal) ∧ (ys.all fun e => e.all scal) then
                    setOb (h.set jd (.row zj ys cj false)) id (.sl id (cur + 1) off (len + 1)) (.row z (xs.take (off + n.toNat) ++ [e] ++ (xs.drop (off + n.toNat)).take (len - n.toNat)) (cur + 1) true)
                  else none
                | none => none
              | _ => none
            | _ => none
          | _ => none
        | _ => none
    | none => none
  | _ => none
/-- A number in memory, raised; stored. -/
def evAtadd (h : Heap) (k : IntKind) (p d : V) : VH :=
  match p with
  | .ptr id off =>
    match d with
    | .int q n =>
      match cellsAt h (.ptr id off) with
      | some (.int r m :: _) =>
        if q = k ∧ r = k then
          match evStoreV h 1 (.ptr id off) (.int k (k.wrap (m + n))) with
          | some (_, h') => some (.int k (k.wrap (m + n)), h')
          | none => none
        else none
      | _ => none
    | _ => none
  | _ => none
def evAtld (h : Heap) (k : IntKind) (p : V) : VH :=
  match cellsAt h p with
  | some (.int r m :: _) => if r = k then some (.int k m, h) else none
  | _ => none
def evAtst (h : Heap) (k : IntKind) (p d : V) : VH :=
  match p with
  | .ptr id off =>
    match d with
    | .int q n => if q = k then evStoreV h 1 (.ptr id off) (.int k n) else none
    | _ => none
  | _ => none
/-- A sync.Once that was not done, and whose lock is free: its lock is taken. -/
def evOnceIn (h : Heap) (p f : V) : VH :=
  match f with
  | .fn (.func _) [] _ =>
    match p with
    | .ptr id off =>
      match cellsAt h (.ptr id off) with
      | some (.int .u32 0 :: .int .i32 0 :: _) => evStoreV h 1 (.ptr id (off + 1)) (.int .i32 1)
      | _ => none
    | _ => none
  | _ => none
/-- It was done; its lock is free. -/
def evOnceOut (h : Heap) (p : V) : VH :=
  match p with
  | .ptr id off =>
    match cellsAt h (.ptr id off) with
    | some (.int .u32 0 :: .int .i32 1 :: _) =>
      match evStoreV h 1 (.ptr id off) (.int .u32 1) with
      | some (_, h1) => evStoreV h1 1 (.ptr id (off + 1)) (.int .i32 0)
      | none => none
    | _ => none
  | _ => none

def evs (env : List V) (l : List Od) : List V := l.map (·.ev env)

/-- An operation that is no call: its value, and the heap behind it. `none`: not taken. -/
def evOp (env : List V) (h : Heap) : Cop → VH
  | .mov x => some (x.ev env, h)
  | .pick c a b => evPick env h c a b
  | .alloc zero => newOb h (.ptr h.length 0) (.cells zero)
  | .box x => evBox h (x.ev env).cells
  | .build zero parts => evBuild h zero (parts.map fun p => (p.1, p.2.1, p.2.2.ev env))
  | .bslice zero len sz parts => evBslice h zero len sz (parts.map fun p => (p.1, p.2.ev env))
  | .load ag x => okCells h ag (cellsAt h (x.ev env))
  | .store n a x => evStoreV h n (a.ev env) (x.ev env)
  | .bin op x y => okV h (binV op (x.ev env) (y.ev env))
  | .eqc neg ps x y => evEqc h neg ps (x.ev env) (y.ev env)
  | .eqn k neg x y => evEqn h k neg (x.ev env) (y.ev env)
  | .un op x => okV h (unV op (x.ev env))
  | .conv d x => evConv h d (x.ev env)
  | .field off ag x => evField h off ag (x.ev env)
  | .faddr off x => okV h (faddrV off (x.ev env))
  | .iaddr sz x i => okV h (iaddrV h sz (x.ev env) (i.ev env))
  | .iaddrA len sz x i => evIaddrA h len sz (x.ev env) (i.ev env)
  | .idxS x i => evIdxS h (x.ev env) (i.ev env)
  | .idxA len sz ag x i => evIdxA h len sz ag (x.ev env) (i.ev env)
  | .slice k sz x lo hi => okV h (sliceV k h sz (x.ev env) (lo.map (·.ev env)) (hi.map (·.ev env)))
  | .ext x i => evExt h (x.ev env) i
  | .mki t x => some (.ifc t (x.ev env), h)
  | .mkf f first caps => fS (evs env first) fun a => fS (evs env caps) fun b => some (.fn f a b, h)
  | .mkm => newOb h (.map h.length) (.map [] 0)
  | .mks zero sz bytes len cap => evMks h zero sz bytes (len.ev env) (cap.ev env)
  | .look ks ok zero m k => evLook h ks ok zero (m.ev env) (k.ev env)
  | .mapup ks m k x => evMapup h ks (m.ev env) (k.ev env) (x.ev env)
  | .mapent ks zero m k => evMapent h ks zero (m.ev env) (k.ev env)
  | .entst m s x => evEntst h (m.ev env) (s.ev env) (x.ev env)
  | .len k x => evLen h k (x.ev env)
  | .mx xs => okV h (foldInt (fun x y => if y > x then y else x) (evs env xs))
  | .mn xs => okV h (foldInt (fun x y => if y < x then y else x) (evs env xs))
  | .app sz bytes s x => evApp h sz bytes (s.ev env) (x.ev env)
  | .copy sz d x => evCopy h sz (d.ev env) (x.ev env)
  | .del ks m k => evDel h ks (m.ev env) (k.ev env)
  | .nilchk x => evNilchk h (x.ev env)
  | .slice3 x lo hi mx => evSl3 h (x.ev env) (lo.map (·.ev env)) (hi.ev env) (mx.ev env)
  | .clr sz zero x => evClr h sz zero (x.ev env)
  | .ins sz bytes s i x => evIns h sz bytes (s.ev env) (i.ev env) (x.ev env)
  | .atadd k x y => evAtadd h k (x.ev env) (y.ev env)
  | .atst k x y => evAtst h k (x.ev env) (y.ev env)
  | .atld k x => evAtld h k (x.ev env)
  | .onceIn x f => evOnceIn h (x.ev env) (f.ev env)
  | .onceOut x => evOnceOut h (x.ev env)
  | .call _ _ => none

abbrev CallF := V → List V → Heap → Option (V × Heap)

def wanted (env : List V) (g : Option (Nat × Bool)) : Option Bool :=
  match g with
  | none => some true
  | some (j, w) =>
    match eget env j with
    | .bool b => some (b == w)
    | .tup [] => some false
    | _ => none

def putV (env : List V) (d : Option Nat) (v : V) : List V :=
  match d with
  | some i => env.set i v
  | none => env

/-- One operation. -/
def evCp (call : CallF) (o : Cp) (s : St) : Option St :=
  match wanted s.env o.guard with
  | some true =>
    match o.op with
    | .call f args =>
      match fS (evs s.env args) fun as => call (f.ev s.env) as s.heap with
      | some (v, h) => fS (putV s.env o.dst v) fun env => some { s with env, heap := h }
      | none => none
    | op =>
      match evOp s.env s.heap op with
      | some (v, h) => fS (putV s.env o.dst v) fun env => some { s with env, heap := h }
      | none => none
  | some false => some { s with env := putV s.env o.dst V.non }
  | none => none

def evOps (call : CallF) : List Cp → St → Option St
  | [], s => some s
  | o :: r, s =>
    match evCp call o s with
    | some s' => evOps call r s'
    | none => none

/-- The operations that may come next. -/
def readyL (n : Nat) (af : List (List Nat)) (listed : List Bool) : List Nat :=
  (List.range n).filter fun i => !listed.getD i true && (af.getD i []).all fun j => listed.getD j false

open Classical in
/-- Two states, the same. -/
noncomputable def sameSt (a b : St) : Bool := decide (a = b)
theorem sameSt_eq {a b : St} (h : sameSt a b = true) : a = b := by simpa [sameSt] using h
theorem sameSt_refl (a : St) : sameSt a a = true := by simp [sameSt]

/-- A region whose order is open: in whatever order, the same. -/
noncomputable def evAny (call : CallF) (ops : List Cp) (af : List (List Nat)) (fl : List Nat) : Nat → List Bool → St → Option St
  | 0, listed, s => if readyL ops.length af listed = [] then some s else none
  | f + 1, listed, s =>
    match readyL ops.length af listed with
    | [] => some s
    | i :: is =>
      let run (j : Nat) : Option St :=
        match ops[j]? with
        | some o =>
          match evCp call o s with
          | some s' => evAny call ops af fl f (listed.set j true) s'
          | none => none
        | none => none
      match (i :: is).find? fl.contains with
      | some j => run j
      | none =>
        match run i with
        | some r => if is.all (fun j => match run j with | some r' => sameSt r' r | none => false) then some r else none
        | none => none

def rounds (body : St → Option (Ex × St)) : Nat → St → Option (Ex × St)
  | 0, _ => none
  | n + 1, s =>
    match body s with
    | some (.normal, s') => rounds body n s'
    | r => r

/-- A loop over a function: entered, run, left. -/
def evEnter (call : CallF) (f : V) (env : List V) (ps : List Nat) (asg body : Cc) (df : Nat) (h1 : Heap) (m1 : List Nat) : Option (Ex × St) :=
  match call f [.fn (.yield h1.length) [] []] (h1 ++ [Ob.loop .ready none env ps asg body df]) with
  | none => none
  | some (_, h2) =>
    match h2[h1.length]? with
    | some (.loop .busy ..) => none
    | some (.loop _ pend _ _ _ _ _) => some (pend.getD .normal, { env := env, marks := m1, heap := h2.set h1.length .dead })
    | _ => none

/-- Code. `lf`: how many rounds a loop may have; `rnd`: the loop over a function within whose round we are. -/
noncomputable def evCode (call : CallF) (lf : Nat) (rnd : Option Nat) : Cc → St → Option (Ex × St)
  | .skip, s => some (.normal, s)
  | .region ops, s => (evOps call ops s).map fun s' => (.normal, s')
  | .draw ops af fl, s =>
    (evAny call ops af (if rnd.isNone then fl else []) ops.length (List.replicate ops.length false) s).map fun s' => (.normal, s')
  | .seq a b, s =>
    match evCode call lf rnd a s with
    | some (.normal, s') => evCode call lf rnd b s'
    | r => r
  | .cond c a b, s =>
    match c.ev s.env with
    | .bool t => if t then evCode call lf rnd a s else evCode call lf rnd b s
    | _ => none
  | .block id c, s =>
    match evCode call lf rnd c s with
    | some (.exit i, s') => some (if i = id then .normal else .exit i, s')
    | r => r
  | .loop c, s => rounds (evCode call lf rnd c) lf s
  | .exit id, s => some (.exit id, s)
  | .ret, s => some (.ret, s)
  | .rfunc f ps asg body, s =>
    match f.ev s.env with
    | .fn (.func g) first caps =>
      match rnd with
      | none => evEnter call (.fn (.func g) first caps) s.env ps asg body s.heap.length (s.heap ++ [Ob.defr false]) (s.heap.length :: s.marks)
      | some l =>
        match s.heap[l]? with
        | some (.loop _ _ _ _ _ _ df) => evEnter call (.fn (.func g) first caps) s.env ps asg body df s.heap s.marks
        | _ => none
    | _ => none

def evRes (env : List V) (h : Heap) : List Rv → Option (List V)
  | [] => some []
  | .tmp t :: r => (evRes env h r).map (eget env t :: ·)
  | .cell t ag :: r =>
    match (cellsAt h (eget env t)).bind (ofCells ag), evRes env h r with
    | some v, some vs => some (v :: vs)
    | _, _ => none

def setMany (env : List V) : List Nat → List V → List V
  | i :: is, v :: vs => setMany (env.set i v) is vs
  | _, _ => env

def takeMarks (h : Heap) : List Nat → Option Heap
  | [] => some h
  | m :: r =>
    match h[m]? with
    | some (.defr false) => takeMarks (h.set m (.defr true)) r
    | _ => none

noncomputable def evBody (call : CallF) (lf : Nat) (cf : Cf) (args : List V) (h : Heap) : Option (V × Heap) :=
  if cf.ntmps < args.length then none else
  match evCode call lf none cf.body { env := args ++ List.replicate (cf.ntmps - args.length) V.non, marks := [], heap := h } with
  | some (.exit _, _) => none
  | some (_, s) =>
    match takeMarks s.heap s.marks with
    | none => none
    | some h1 =>
      match evRes s.env h1 cf.results with
      | some [v] => some (v, h1)
      | some vs => some (.tup vs, h1)
      | none => none
  | none => none

def fzDepth : Nat := 64

/-- A call, so deep. -/
noncomputable def evCall (Φ : Nat → Option Cf) : Nat → CallF
  | 0, _, _, _ => none
  | n + 1, .fn (.func f) first caps, args, h =>
    match Φ f with
    | none => none
    | some cf =>
      if cf.pure then
        match mapH (fz fzDepth) h (first ++ args ++ caps) with
        | none => none
        | some (as, h1) =>
          match evBody (evCall Φ n) n cf as [] with
          | none => none
          | some (r, h2) => (fz fzDepth h2 r).map fun p => (p.1, h1)
      else evBody (evCall Φ n) n cf (first ++ args ++ caps) h
  | n + 1, .fn (.yield l) _ _, args, h =>
    match h[l]? with
    | some (.loop .ready pend env ps asg body df) =>
      if args.length = ps.length then
        match evCode (evCall Φ n) n (some l) asg { env := setMany env ps args, marks := [], heap := h } with
        | some (.normal, s1) =>
          match s1.heap[l]? with
          | some (.loop .ready pend' env' ps' asg' body' df') =>
            match evCode (evCall Φ n) n (some l) body { s1 with heap := s1.heap.set l (.loop .busy pend' env' ps' asg' body' df') } with
            | some (e, s2) =>
              match s2.heap[l]? with
              | some (.loop _ pend2 env2 ps2 asg2 body2 df2) =>
                match e with
                | .normal => some (.bool true, s2.heap.set l (.loop .ready none env2 ps2 asg2 body2 df2))
                | e => some (.bool false, s2.heap.set l (.loop .done (some e) env2 ps2 asg2 body2 df2))
              | _ => none
            | none => none
          | _ => none
        | _ => none
      else none
    | _ => none
  | _, _, _, _ => none

end Go.Ev

namespace Go.Ev

/-- A constant's value, or a zero's cell. -/
def ofCell : Value → Option V
  | .bool b => some (.bool b)
  | .int k n => some (.int k n)
  | .string s => some (.str s)
  | .pointer none => some .nilp
  | .slice none 0 0 => some .nils
  | .map none => some .nilm
  | .nilFunc => some .nilf
  | .nilIface => some .nili
  | .func (.func f) a c => if a.size = 0 ∧ c.size = 0 then some (.fn (.func f) [] []) else none
  | _ => none

def ofCellList : List Value → Option (List V)
  | [] => some []
  | v :: r =>
    match ofCell v, ofCellList r with
    | some x, some xs => some (x :: xs)
    | _, _ => none

def ofConst : Value → Option V
  | .agg cs => (ofCellList cs.toList).map .agg
  | v => ofCell v

def cOd : Operand → Option Od
  | .tmp t => some (.t t)
  | .const v => (ofConst v).map .c
  | .func f => some (.c (.fn (.func f) [] []))
  | .global _ => none

def cOds (l : List Operand) : Option (List Od) := l.mapM cOd

section
variable (P : Program)

def isAggT (t : TypeId) : Option Bool :=
  match P.underlying t with
  | some (.struct _) | some (.array _ _) => some true
  | some _ => some false
  | none => none

def sizeT (t : TypeId) : Option Nat := (P.info? t).map (·.size)
def bytesT (t : TypeId) : Option Nat := (P.info? t).map (·.bytes)
def zeroT (t : TypeId) : Option V := (P.info? t).bind fun i => i.zero.bind ofConst

def aggT (t : TypeId) : Option (Option Nat) :=
  match isAggT P t with
  | some true => (sizeT P t).map some
  | some false => some none
  | none => none

/-- What '==' looks at in a type's values. -/
def eqD : Nat → TypeId → Option Eqd
  | 0, _ => none
  | d + 1, t =>
    match P.underlying t with
    | some .bool => some (.leaf .b)
    | some (.int _) => some (.leaf .i)
    | some .string => some (.leaf .s)
    | some (.struct fs) => if P.stoodInHeld t then none else (eqFs (eqD d) fs.toList).bind nn
    | some (.array n e) => (sizeT P e).bind fun s => (aggT P e).bind fun ag => (eqD d e).bind fun q => nn (eqAs s ag q n 0)
    | _ => none
where
  nn (q : Eqd) : Option Eqd :=
    match q with
    | .cons a b c d => some (.cons a b c d)
    | _ => none
  eqFs (go : TypeId → Option Eqd) : List Field → Option Eqd
    | [] => some .nil
    | f :: fs =>
      if f.name = "_" then eqFs go fs
      else
        match go f.type, aggT P f.type, eqFs go fs with
        | some q, some ag, some r => some (.cons f.offset ag q r)
        | _, _, _ => none
  eqAs (s : Nat) (ag : Option Nat) (q : Eqd) : Nat → Nat → Eqd
    | 0, _ => .nil
    | n + 1, i => .cons (i * s) ag q (eqAs s ag q n (i + 1))

def cBin (op : BinOp) (t : TypeId) (x y : Od) : Option Cop :=
  if isEq op then
    match P.underlying t with
    | some (.int _) | some .string => some (.bin op x y)
    | some .bool | some (.struct _) | some (.array _ _) =>
      if P.eqGuardType P.depth t then none
      else (eqD P 20 t).map fun ps => .eqc (op matches .neq) ps x y
    | some (.slice _) => some (.eqn .l (op matches .neq) x y)
    | some (.map _ _) => some (.eqn .m (op matches .neq) x y)
    | some (.func _ _ _) => some (.eqn .f (op matches .neq) x y)
    | some (.pointer _) => some (.eqn .p (op matches .neq) x y)
    | _ => none
  else some (.bin op x y)

def cConv (src dst : TypeId) (x : Od) : Option Cop :=
  match P.underlying src, P.underlying dst with
  | some (.int _), some (.int k) => some (.conv (.int k) x)
  | some .string, some .string => some (.conv .same x)
  | some (.slice e), some .string =>
    match P.underlying e with
    | some (.int .u8) => some (.conv .bytesStr x)
    | _ => none
  | some .string, some (.slice e) =>
    match P.underlying e with
    | some (.int .u8) => some (.conv .strBytes x)
    | _ => none
  | _, _ => none

/-- A slice's element: its cells, bytes, zero. -/
def elemT (e : TypeId) : Option (Nat × Nat × List V) :=
  match P.info? e with
  | some i =>
    match i.zero with
    | some v =>
      match ofConst v with
      | some z => if i.size ≠ 0 ∧ i.bytes ≠ 0 ∧ v.cells.size = i.size then some (i.size, i.bytes, z.cells) else none
      | none => none
    | none => none
  | none => none

def cBuiltin (b : Builtin) (ts : List TypeId) (args : List Od) : Option Cop :=
  match b, ts, args with
  | .len, [t], [x] =>
    match P.underlying t with
    | some .string => some (.len .s x)
    | some (.slice _) => some (.len .l x)
    | some (.map _ _) => some (.len .m x)
    | some (.array n _) => some (.mov (.c (.int .i64 n)))
    | some (.pointer a) =>
      match P.underlying a with
      | some (.array n _) => some (.mov (.c (.int .i64 n)))
      | _ => none
    | _ => none
  | .max, _, xs => some (.mx xs)
  | .min, _, xs => some (.mn xs)
  | .append, [t, u], [s, x] =>
    match P.underlying t, P.underlying u with
    | some (.slice e), some (.slice _) | some (.slice e), some .string =>
      (elemT P e).map fun p => .app p.1 p.2.1 s x
    | _, _ => none
  | .copy, [t, u], [d, x] =>
    match P.underlying t, P.underlying u with
    | some (.slice e), some (.slice _) | some (.slice e), some .string => (elemT P e).map fun p => .copy p.1 d x
    | _, _ => none
  | .delete, [t, _], [m, k] =>
    match P.underlying t with
    | some (.map kt _) => (eqD P 20 kt).map fun ks => .del ks m k
    | _ => none
  | .clear, [t], [x] =>
    match P.underlying t with
    | some (.slice e) => (elemT P e).map fun p => .clr p.1 p.2.2 x
    | _ => none
  | _, _, _ => none

def optOd : Option Operand → Option (Option Od)
  | none => some none
  | some x => (cOd x).map some

def cOp (o : Oper) : Option Cop :=
  match o.op with
  | .move x | .assign x => (cOd x).map .mov
  | .pick c a b =>
    match cOd c, cOd a, cOd b with
    | some c, some a, some b => some (.pick c a b)
    | _, _, _ => none
  | .alloc t => (zeroT P t).map fun z => .alloc z.cells
  | .box _ x => (cOd x).map .box
  | .build t parts =>
    match P.underlying t, zeroT P t with
    | some (.struct fs), some (.agg z) =>
      if !(fs.all fun f => (sizeT P f.type).isSome) then none
      else (parts.toList.mapM fun (p : Nat × Operand) =>
        match fs[p.1]?, cOd p.2 with
        | some f, some x => (sizeT P f.type).map fun s => (f.offset, s, x)
        | _, _ => none).map fun l => .build z l
    | some (.array _ e), some (.agg z) =>
      (sizeT P e).bind fun s =>
        (parts.toList.mapM fun (p : Nat × Operand) => (cOd p.2).map fun x => (p.1 * s, s, x)).map fun l => .build z l
    | _, _ => none
  | .buildSlice t len parts =>
    match P.underlying t with
    | some (.slice e) =>
      match elemT P e with
      | some q =>
        if len * q.1 > 2 ^ 24 then none
        else (parts.toList.mapM fun (p : Nat × Operand) => (cOd p.2).map fun x => (p.1, x)).map fun l => .bslice q.2.2 len q.1 l
      | none => none
    | _ => none
  | .load t a =>
    match aggT P t, cOd a with
    | some ag, some x => some (.load ag x)
    | _, _ => none
  | .store t a x =>
    match sizeT P t, cOd a, cOd x with
    | some n, some a, some x => some (.store n a x)
    | _, _, _ => none
  | .nilCheck x => (cOd x).map .nilchk
  | .binOp op t x y _ =>
    match cOd x, cOd y with
    | some x, some y => cBin P op t x y
    | _, _ => none
  | .unOp op _ x => (cOd x).map (.un op)
  | .convert s d x => (cOd x).bind fun x => cConv P s d x
  | .makeInterface t x =>
    match P.underlying t with
    | some (.interface _) => none
    | some _ => (cOd x).map (.mki t)
    | none => none
  | .makeFunc f a b =>
    if isYield f then none
    else
      match cOds a.toList, cOds b.toList with
      | some a, some b => some (.mkf f a b)
      | _, _ => none
  | .makeMap _ none => some .mkm
  | .makeSlice t l c =>
    match P.underlying t with
    | some (.slice e) =>
      match elemT P e, cOd l, cOd c with
      | some q, some l, some c => some (.mks q.2.2 q.1 q.2.1 l c)
      | _, _, _ => none
    | _ => none
  | .slice t x lo hi none =>
    match P.underlying t, cOd x, optOd lo, optOd hi with
    | some .string, some x, some lo, some hi => some (.slice .s 1 x lo hi)
    | some (.slice e), some x, some lo, some hi => (sizeT P e).map fun s => .slice .l s x lo hi
    | _, _, _, _ => none
  | .fieldAddr t x f =>
    match P.underlying t, cOd x with
    | some (.struct fs), some x =>
      (fs[f]?).bind fun g => (sizeT P g.type).bind fun s => if s = 0 then none else some (.faddr g.offset x)
    | _, _ => none
  | .field t x f =>
    match P.underlying t, cOd x with
    | some (.struct fs), some x => (fs[f]?).bind fun g => (aggT P g.type).map fun ag => .field g.offset ag x
    | _, _ => none
  | .indexAddr t x i =>
    match P.underlying t, cOd x, cOd i with
    | some (.slice e), some x, some i => (sizeT P e).bind fun s => if s = 0 then none else some (.iaddr s x i)
    | some (.array n e), some x, some i => (sizeT P e).bind fun s => if s = 0 then none else some (.iaddrA n s x i)
    | _, _, _ => none
  | .index t x i =>
    match P.underlying t, cOd x, cOd i with
    | some .string, some x, some i => some (.idxS x i)
    | some (.array n e), some x, some i =>
      match sizeT P e, aggT P e with
      | some s, some ag => some (.idxA n s ag x i)
      | _, _ => none
    | _, _, _ => none
  | .lookup t m k ok =>
    match P.underlying t, cOd m, cOd k with
    | some (.map kt e), some m, some k =>
      match eqD P 20 kt, zeroT P e with
      | some ks, some z => some (.look ks ok z m k)
      | _, _ => none
    | _, _, _ => none
  | .mapUpdate t m k x | .insert t m k x =>
    match P.underlying t, cOd m, cOd k, cOd x with
    | some (.map kt _), some m, some k, some x => (eqD P 20 kt).map fun ks => .mapup ks m k x
    | _, _, _, _ => none
  | .mapEntry t m k =>
    match P.underlying t, cOd m, cOd k with
    | some (.map kt e), some m, some k =>
      match eqD P 20 kt, zeroT P e with
      | some ks, some z => some (.mapent ks z m k)
      | _, _ => none
    | _, _, _ => none
  | .entryStore _ m s x =>
    match cOd m, cOd s, cOd x with
    | some m, some s, some x => some (.entst m s x)
    | _, _, _ => none
  | .extract t i => (cOd t).map fun x => .ext x i
  | .call c =>
    match c.callee, cOds c.args.toList with
    | .builtin b, some args => cBuiltin P b c.argTypes.toList args
    | .value f, some args => (cOd f).map fun f => .call f args
    | _, _ => none
  | .slice t x lo (some hi) (some mx) =>
    match P.underlying t, cOd x, optOd lo, cOd hi, cOd mx with
    | some (.slice e), some x, some lo, some hi, some mx => (sizeT P e).map fun _ => .slice3 x lo hi mx
    | _, _, _, _, _ => none
  | _ => none

def cGuard (ops : Array Oper) : Option (Nat × Bool) → Option (Option (Nat × Bool))
  | none => some none
  | some (j, w) => ((ops[j]?).bind (·.dst)).map fun d => some (d, w)

def cOper (ops : Array Oper) (o : Oper) : Option Cp :=
  match cOp P o, cGuard ops o.guard with
  | some c, some g => some { dst := o.dst, op := c, guard := g }
  | _, _ => none

def afterL (o : Oper) : List Nat := (o.after.toList.filter (Region.binds .any)).map (·.on)

/-- Operations whose value hangs on no memory. -/
def pureOp : Cop → Bool
  | .mov _ | .pick .. | .build .. | .bin .. | .un .. | .field .. | .faddr .. | .iaddr .. | .iaddrA .. | .idxS .. | .ext .. | .mki .. | .mkf .. | .nilchk _ | .slice .. => true
  | .conv (.int _) _ | .conv .same _ => true
  | _ => false

/-- May operation i be taken first, wherever it may come next? -/
def freeOp (ops : Array Oper) (i : Nat) (o : Oper) : Bool :=
  (List.range ops.size).all fun j =>
    j == i || (afterL o).contains j || (match ops[j]? with | some p => (afterL p).contains i || o.apart ops p | none => true)

def flOf (ops : Array Oper) (l : List Cp) : List Nat :=
  (List.range ops.size).filter fun i =>
    match ops[i]?, l[i]? with
    | some o, some c => pureOp c.op && freeOp ops i o
    | _, _ => false

def cCode : Code → Option Cc
  | .skip => some .skip
  | .region _ ops false => (ops.toList.mapM (cOper P ops)).map .region
  | .region _ ops true =>
    (ops.toList.mapM (cOper P ops)).map fun l => .draw l (ops.toList.map afterL) (flOf ops l)
  | .seq a b =>
    match cCode a, cCode b with
    | some a, some b => some (.seq a b)
    | _, _ => none
  | .cond c a b =>
    match cOd c, cCode a, cCode b with
    | some c, some a, some b => some (.cond c a b)
    | _, _, _ => none
  | .block id c => (cCode c).map (.block id)
  | .loop c => (cCode c).map .loop
  | .exit id => some (.exit id)
  | .ret => some .ret
  | .rangeFunc f ps a b =>
    match cOd f, cCode a, cCode b with
    | some f, some a, some b => some (.rfunc f ps.toList a b)
    | _, _, _ => none
  | _ => none

def cRes : ResultVar → Option Rv
  | .tmp t => some (.tmp t)
  | .cell a t => (aggT P t).map (.cell a)

def cFunc (pure : Bool) (fn : Func) : Option Cf :=
  match fn.body with
  | some c =>
    match cCode P c, fn.results.toList.mapM cRes' with
    | some b, some r => some { ntmps := fn.ntmps, results := r, body := b, pure }
    | _, _ => none
  | none => none
where cRes' : ResultVar → Option Rv := fun r => cRes P r

end
end Go.Ev

namespace Go.Ev
set_option linter.unusedVariables false
set_option linter.unusedSectionVars false

/-- Where an object lies: one block; or a row's block: its epoch, block, the element at the block's begin, how many elements the block bears, an element's cells. -/
inductive Ko where
  | blk (b : Nat)
  | row (ep b st cp sz : Nat)

abbrev Kap := Nat → Option Ko
abbrev Cells := Nat → Nat → Prop

def noK : Kap := fun _ => none

section
variable (S : Cells) (w : World)
mutual
/-- A value's abstract one. -/
def RV (κ : Kap) : V → Value → Prop
  | .undef, _ => True
  | .bool b, v => v = .bool b
  | .int k n, v => v = .int k n
  | .str s, v => v = .string s
  | .nilp, v => v = .pointer none
  | .ptr id off, v => ∃ b, κ id = some (.blk b) ∧ v = .pointer (some ⟨b, off, none⟩)
  | .eptr id ep idx off, v => ∃ e b st cp sz p, κ id = some (.row e b st cp sz) ∧ ep ≤ e ∧ v = .pointer (some p) ∧
      (ep = e → st ≤ idx ∧ p = ⟨b, (idx - st) * sz + off, none⟩)
  | .iptr cs, v => ∃ b o, v = .pointer (some ⟨b, o, none⟩) ∧ RC cs b o
  | .nils, v => v = .slice none 0 0
  | .arr xs, v => ∃ a cap, v = .slice a xs.length cap ∧ xs.length ≤ cap ∧
      (xs = [] ∨ ∃ b o sz, a = some ⟨b, o, none⟩ ∧ RE xs b o sz)
  | .sl id ep off len, v => ∃ e b st cp sz a c, κ id = some (.row e b st cp sz) ∧ ep ≤ e ∧ v = .slice (some a) len c ∧ len ≤ c ∧
      (ep = e → st ≤ off ∧ off + len ≤ st + cp ∧ c = st + cp - off ∧ (c = 0 ∨ a = ⟨b, (off - st) * sz, none⟩))
  | .nilm, v => v = .map none
  | .map id, v => ∃ b, κ id = some (.blk b) ∧ v = .map (some b)
  | .nilf, v => v = .nilFunc
  | .fn (.yield l) a c, v => ∃ b, κ l = some (.blk b) ∧ v = .func (.yield b) #[] #[] ∧ a = [] ∧ c = []
  | .fn f a c, v => ∃ a' c', v = .func f a' c' ∧ RL κ a a'.toList ∧ RL κ c c'.toList
  | .nili, v => v = .nilIface
  | .ifc t x, v => ∃ u, v = .iface t u ∧ RV κ x u
  | .agg cs, v => ∃ a, v = .agg a ∧ RL κ cs a.toList
  | .tup cs, v => ∃ a, v = .tuple a ∧ RL κ cs a.toList
def RL (κ : Kap) : List V → List Value → Prop
  | [], [] => True
  | x :: xs, v :: vs => RV κ x v ∧ RL κ xs vs
  | _, _ => False
/-- Cells in memory that stay as they are. -/
def RC : List V → Nat → Nat → Prop
  | [], _, _ => True
  | x :: xs, b, o => S b o ∧ (∃ c, w.cell? ⟨b, o, none⟩ = some c ∧ x.isCell = true ∧ RV noK x c) ∧ RC xs b (o + 1)
def RE : List (List V) → Nat → Nat → Nat → Prop
  | [], _, _, _ => True
  | e :: es, b, o, sz => e.length = sz ∧ RC e b o ∧ RE es b (o + sz) sz
end
end

/-- The same object, later. -/
inductive Ko.le : Ko → Ko → Prop
  | blk (b : Nat) : Ko.le (.blk b) (.blk b)
  | same (ep b st cp sz : Nat) : Ko.le (.row ep b st cp sz) (.row ep b st cp sz)
  | later (ep b st cp sz ep' b' st' cp' : Nat) (h : ep < ep') : Ko.le (.row ep b st cp sz) (.row ep' b' st' cp' sz)

def Kle (κ κ' : Kap) : Prop := ∀ id k, κ id = some k → ∃ k', κ' id = some k' ∧ k.le k'

theorem Ko.le.refl (k : Ko) : k.le k := by cases k <;> constructor
theorem Ko.le.trans {a b c : Ko} (h : a.le b) (k : b.le c) : a.le c := by
  cases h <;> cases k
  · exact .blk _
  · exact .same ..
  · exact .later _ _ _ _ _ _ _ _ _ (by assumption)
  · exact .later _ _ _ _ _ _ _ _ _ (by assumption)
  · exact .later _ _ _ _ _ _ _ _ _ (by omega)
theorem Kle.refl (κ : Kap) : Kle κ κ := fun id k h => ⟨k, h, .refl k⟩
theorem Kle.trans {a b c : Kap} (h : Kle a b) (k : Kle b c) : Kle a c := fun id x hx =>
  let ⟨y, hy, l⟩ := h id x hx
  let ⟨z, hz, m⟩ := k id y hy
  ⟨z, hz, l.trans m⟩

/-- The stable cells stay. -/
def Sle (S : Cells) (w : World) (S' : Cells) (w' : World) : Prop :=
  (∀ b o, S b o → S' b o) ∧ ∀ b o, S b o → w'.cell? ⟨b, o, none⟩ = w.cell? ⟨b, o, none⟩
theorem Sle.refl (S : Cells) (w : World) : Sle S w S w := ⟨fun _ _ h => h, fun _ _ _ => rfl⟩
theorem Sle.trans {S S' S'' : Cells} {w w' w'' : World} (h : Sle S w S' w') (k : Sle S' w' S'' w'') : Sle S w S'' w'' :=
  ⟨fun b o x => k.1 b o (h.1 b o x), fun b o x => (k.2 b o (h.1 b o x)).trans (h.2 b o x)⟩

section mono
variable {S S' : Cells} {w w' : World} (hs : Sle S w S' w')
include hs
mutual
theorem RV.mono {κ κ' : Kap} (hk : Kle κ κ') (x : V) (v : Value) (h : RV S w κ x v) : RV S' w' κ' x v := by
  cases x with
  | undef => trivial
  | bool b => simpa [RV] using h
  | int k n => simpa [RV] using h
  | str s => simpa [RV] using h
  | nilp => simpa [RV] using h
  | nils => simpa [RV] using h
  | nilm => simpa [RV] using h
  | nilf => simpa [RV] using h
  | nili => simpa [RV] using h
  | ptr id off =>
    simp only [RV] at h ⊢
    obtain ⟨b, hb, e⟩ := h
    obtain ⟨k', hk', l⟩ := hk _ _ hb
    cases l
    exact ⟨b, hk', e⟩
  | map id =>
    simp only [RV] at h ⊢
    obtain ⟨b, hb, e⟩ := h
    obtain ⟨k', hk', l⟩ := hk _ _ hb
    cases l
    exact ⟨b, hk', e⟩
  | eptr id ep idx off =>
    simp only [RV] at h ⊢
    obtain ⟨e, b, st, cp, sz, p, hb, le, hv, f⟩ := h
    obtain ⟨k', hk', l⟩ := hk _ _ hb
    cases l with
    | same => exact ⟨e, b, st, cp, sz, p, hk', le, hv, f⟩
    | later _ _ _ _ _ ep' b' st' cp' hlt => exact ⟨ep', b', st', cp', sz, p, hk', by omega, hv, fun q => by omega⟩
  | sl id ep off len =>
    simp only [RV] at h ⊢
    obtain ⟨e, b, st, cp, sz, a, c, hb, le, hv, hl, f⟩ := h
    obtain ⟨k', hk', l⟩ := hk _ _ hb
    cases l with
    | same => exact ⟨e, b, st, cp, sz, a, c, hk', le, hv, hl, f⟩
    | later _ _ _ _ _ ep' b' st' cp' hlt => exact ⟨ep', b', st', cp', sz, a, c, hk', by omega, hv, hl, fun q => by omega⟩
  | iptr cs =>
    simp only [RV] at h ⊢
    obtain ⟨b, o, e, r⟩ := h
    exact ⟨b, o, e, RC.mono cs b o r⟩
  | arr xs =>
    simp only [RV] at h ⊢
    obtain ⟨a, cap, e, l, r⟩ := h
    refine ⟨a, cap, e, l, ?_⟩
    rcases r with r | ⟨b, o, sz, ea, r⟩
    · exact .inl r
    · exact .inr ⟨b, o, sz, ea, RE.mono xs b o sz r⟩
  | fn f a c =>
    cases f with
    | yield l =>
      simp only [RV] at h ⊢
      obtain ⟨b, hb, e⟩ := h
      obtain ⟨k', hk', l⟩ := hk _ _ hb
      cases l
      exact ⟨b, hk', e⟩
    | _ =>
      simp only [RV] at h ⊢
      obtain ⟨a', c', e, r, q⟩ := h
      exact ⟨a', c', e, RL.mono hk a _ r, RL.mono hk c _ q⟩
  | ifc t x =>
    simp only [RV] at h ⊢
    obtain ⟨u, e, r⟩ := h
    exact ⟨u, e, RV.mono hk x u r⟩
  | agg cs =>
    simp only [RV] at h ⊢
    obtain ⟨a, e, r⟩ := h
    exact ⟨a, e, RL.mono hk cs _ r⟩
  | tup cs =>
    simp only [RV] at h ⊢
    obtain ⟨a, e, r⟩ := h
    exact ⟨a, e, RL.mono hk cs _ r⟩
theorem RL.mono {κ κ' : Kap} (hk : Kle κ κ') (xs : List V) (vs : List Value) (h : RL S w κ xs vs) : RL S' w' κ' xs vs := by
  cases xs with
  | nil => cases vs with
    | nil => trivial
    | cons v vs => simp [RL] at h
  | cons x xs => cases vs with
    | nil => simp [RL] at h
    | cons v vs =>
      simp only [RL] at h ⊢
      exact ⟨RV.mono hk x v h.1, RL.mono hk xs vs h.2⟩
theorem RC.mono (xs : List V) (b o : Nat) (h : RC S w xs b o) : RC S' w' xs b o := by
  cases xs with
  | nil => trivial
  | cons x xs =>
    simp only [RC] at h ⊢
    obtain ⟨s, ⟨c, hc, i, r⟩, t⟩ := h
    exact ⟨hs.1 b o s, ⟨c, (hs.2 b o s).trans hc, i, RV.mono (.refl _) x c r⟩, RC.mono xs b (o + 1) t⟩
theorem RE.mono (xs : List (List V)) (b o sz : Nat) (h : RE S w xs b o sz) : RE S' w' xs b o sz := by
  cases xs with
  | nil => trivial
  | cons x xs =>
    simp only [RE] at h ⊢
    exact ⟨h.1, RC.mono x b o h.2.1, RE.mono xs b (o + sz) sz h.2.2⟩
end
end mono
end Go.Ev

namespace Go.Ev
open Go.RowKit
set_option linter.unusedVariables false
set_option linter.unusedSectionVars false

def Ko.block : Ko → Nat
  | .blk b => b
  | .row _ b _ _ _ => b

/-- None of the first n cells is frozen. -/
def NF (fr : Nat × Nat) (n : Nat) : Prop := ∀ o, o < n → ¬ (fr.1 ≤ o ∧ o < fr.2)
/-- Nor, of a row that is none of bytes, its end. -/
def NR (sz : Nat) (fr : Nat × Nat) (n : Nat) : Prop := NF fr n ∧ (sz ≠ 1 → NF fr (n + 1))

/-- Map entries. -/
def ME (S : Cells) (w : World) (κ : Kap) : List (V × V × Nat) → List MapEntry → Prop
  | [], [] => True
  | x :: xs, e :: es => RV S w κ x.1 e.key ∧ RV S w κ x.2.1 e.val ∧ x.2.2 = e.born ∧ ME S w κ xs es
  | _, _ => False

/-- A pending jump. -/
def PJ : Option Ex → Option Code → Prop
  | none, none => True
  | some .ret, some .ret => True
  | some (.exit i), some (.exit j) => i = j
  | _, _ => False

/-- A row's elements in its block. -/
def RR (S : Cells) (w : World) (κ : Kap) (xs : List (List V)) (st sz : Nat) (c : List Value) : Prop :=
  ∀ (i : Nat) (e : List V), st ≤ i → xs[i]? = some e → RL S w κ e ((c.drop ((i - st) * sz)).take sz)

def OI (P : Program) (S : Cells) (w : World) (κ : Kap) (id : Nat) : Ob → Prop
  | .dead => True
  | .cells cs => ∃ b c el fr, κ id = some (.blk b) ∧ w.heap[b]? = some (.cells c el fr) ∧ NF fr c.size ∧
      RL S w κ cs c.toList ∧ cs.all V.isCell = true ∧ ∀ o, ¬ S b o
  | .row sz xs ep wr => ∃ b st cp c el fr, κ id = some (.row ep b st cp sz) ∧ w.heap[b]? = some (.cells c el fr) ∧ NR sz fr c.size ∧
      0 < sz ∧ c.size = cp * sz ∧ st ≤ xs.length ∧ xs.length ≤ st + cp ∧ (∀ e ∈ xs, e.length = sz ∧ e.all V.isCell = true) ∧
      RR S w κ xs st sz c.toList ∧
      (∀ o, (xs.length - st) * sz ≤ o → ¬ S b o) ∧ (wr = true → ∀ o, ¬ S b o)
  | .map es clock => ∃ b es', κ id = some (.blk b) ∧ w.heap[b]? = some (.map es' clock) ∧ ME S w κ es es'.toList
  | .loop st pend env ps asg body df => ∃ b db l, κ id = some (.blk b) ∧ w.heap[b]? = some (.loop l) ∧ l.state = st ∧
      PJ pend l.pending ∧ RL S w κ env l.tmps.toList ∧ l.params.toList = ps ∧ cCode P l.assign = some asg ∧ cCode P l.body = some body ∧
      κ df = some (.blk db) ∧ l.defers = db
  | .defr t => ∃ b, κ id = some (.blk b) ∧ w.heap[b]? = some (.deferred (if t then none else some []))

structure Inv (P : Program) (B : Nat) (S : Cells) (w : World) (κ : Kap) (h : Heap) : Prop where
  obs : ∀ id o, h[id]? = some o → OI P S w κ id o
  dis : ∀ id id' k k', κ id = some k → κ id' = some k' → k.block = k'.block → id = id'
  dom : ∀ id k, κ id = some k → id < h.length ∧ B ≤ k.block ∧ k.block < w.heap.size
  sb : ∀ b o, S b o → b < w.heap.size
  bw : B ≤ w.heap.size

/-- From one state to a later one. -/
structure Stp (B : Nat) (S : Cells) (w : World) (κ : Kap) (S' : Cells) (w' : World) (κ' : Kap) : Prop where
  below : Below B w w'
  sle : Sle S w S' w'
  kle : Kle κ κ'
  new : ∀ b o, S' b o → S b o ∨ B ≤ b

theorem Stp.refl (B : Nat) (S : Cells) (w : World) (κ : Kap) : Stp B S w κ S w κ := ⟨.refl _ _, .refl _ _, .refl _, fun _ _ h => .inl h⟩
theorem Stp.trans {B : Nat} {S S' S'' : Cells} {w w' w'' : World} {κ κ' κ'' : Kap} (h : Stp B S w κ S' w' κ') (k : Stp B S' w' κ' S'' w'' κ'') :
    Stp B S w κ S'' w'' κ'' :=
  ⟨h.below.trans k.below, h.sle.trans k.sle, h.kle.trans k.kle, fun b o x => (k.new b o x).elim (h.new b o) .inr⟩

section mono
variable {P : Program} {S S' : Cells} {w w' : World} {κ κ' : Kap}
theorem ME.mono (hs : Sle S w S' w') (hk : Kle κ κ') : ∀ (xs : List (V × V × Nat)) (es : List MapEntry), ME S w κ xs es → ME S' w' κ' xs es
  | [], [], _ => trivial
  | [], _ :: _, h => h.elim
  | _ :: _, [], h => h.elim
  | x :: xs, e :: es, h => ⟨RV.mono hs hk _ _ h.1, RV.mono hs hk _ _ h.2.1, h.2.2.1, ME.mono hs hk xs es h.2.2.2⟩

/-- An object that is not touched stays what it is. -/
theorem OI.mono (hs : Sle S w S' w') (hk : Kle κ κ') (hnew : ∀ b o, S' b o → S b o ∨ w.heap.size ≤ b) {id : Nat} {o : Ob}
    (hid : ∀ k, κ id = some k → κ' id = some k ∧ w'.heap[k.block]? = w.heap[k.block]? ∧ k.block < w.heap.size)
    (h : OI P S w κ id o) : OI P S' w' κ' id o := by
  cases o with
  | dead => trivial
  | cells cs =>
    obtain ⟨b, c, el, fr, hb, hc, nf, r, ic, ns⟩ := h
    obtain ⟨e1, e2, e3⟩ := hid _ hb
    refine ⟨b, c, el, fr, e1, e2.trans hc, nf, RL.mono hs hk _ _ r, ic, fun o x => ?_⟩
    rcases hnew b o x with y | y
    · exact ns o y
    · have : b < w.heap.size := e3
      omega
  | row sz xs ep wr =>
    obtain ⟨b, st, cp, c, el, fr, hb, hc, nf, h0, hsz, h1, h2, hl, r, f1, f2⟩ := h
    obtain ⟨e1, e2, e3⟩ := hid _ hb
    have e3' : b < w.heap.size := e3
    refine ⟨b, st, cp, c, el, fr, e1, e2.trans hc, nf, h0, hsz, h1, h2, hl, fun i e hi he => RL.mono hs hk _ _ (r i e hi he), fun o ho x => ?_, fun hw o x => ?_⟩
    · rcases hnew b o x with y | y
      · exact f1 o ho y
      · omega
    · rcases hnew b o x with y | y
      · exact f2 hw o y
      · omega
  | map es clock =>
    obtain ⟨b, es', hb, hc, r⟩ := h
    obtain ⟨e1, e2, e3⟩ := hid _ hb
    exact ⟨b, es', e1, e2.trans hc, ME.mono hs hk _ _ r⟩
  | loop st pend env ps asg body df =>
    obtain ⟨b, db, l, hb, hc, h1, h2, h3, h4, h5, h6, h7, h8⟩ := h
    obtain ⟨e1, e2, e3⟩ := hid _ hb
    obtain ⟨k', hk', le⟩ := hk _ _ h7
    cases le
    exact ⟨b, db, l, e1, e2.trans hc, h1, h2, RL.mono hs hk _ _ h3, h4, h5, h6, hk', h8⟩
  | defr t =>
    obtain ⟨b, hb, hc⟩ := h
    obtain ⟨e1, e2, e3⟩ := hid _ hb
    exact ⟨b, e1, e2.trans hc⟩
end mono

def upd (κ : Kap) (id : Nat) (k : Ko) : Kap := fun i => if i = id then some k else κ i
theorem upd_same (κ : Kap) (id : Nat) (k : Ko) : upd κ id k id = some k := by simp [upd]
theorem upd_ne (κ : Kap) (id : Nat) (k : Ko) (i : Nat) (h : i ≠ id) : upd κ id k i = κ i := by simp [upd, h]
theorem kle_upd {κ : Kap} {id : Nat} {k : Ko} (h : ∀ k0, κ id = some k0 → k0.le k) : Kle κ (upd κ id k) := fun i k0 h0 => by
  by_cases e : i = id
  · subst e; exact ⟨k, upd_same .., h k0 h0⟩
  · exact ⟨k0, (upd_ne _ _ _ _ e).trans h0, .refl _⟩

/-- The world with another object in a block. -/
def World.withBlock (w : World) (b : Nat) (o : Obj) : World := { w with heap := w.heap.setIfInBounds b o }

theorem withBlock_size (w : World) (b : Nat) (o : Obj) : (World.withBlock w b o).heap.size = w.heap.size := by simp [World.withBlock]
theorem withBlock_ne (w : World) (b : Nat) (o : Obj) (i : Nat) (h : i ≠ b) : (World.withBlock w b o).heap[i]? = w.heap[i]? := by
  simp [World.withBlock, Array.getElem?_setIfInBounds_ne (Ne.symm h)]
theorem withBlock_same (w : World) (b : Nat) (o : Obj) (h : b < w.heap.size) : (World.withBlock w b o).heap[b]? = some o := by
  simp [World.withBlock, h]
theorem cell?_of (w : World) (b o : Nat) {c : Array Value} {el : TypeId} {fr : Nat × Nat} (h : w.heap[b]? = some (.cells c el fr)) :
    w.cell? ⟨b, o, none⟩ = c[o]? := by
  simp [World.cell?, h]
theorem cell?_congr {w w' : World} {b : Nat} (o : Nat) (h : w'.heap[b]? = w.heap[b]?) : w'.cell? ⟨b, o, none⟩ = w.cell? ⟨b, o, none⟩ := by
  simp [World.cell?, h]

theorem below_withBlock {B : Nat} (w : World) {b : Nat} (h : B ≤ b) (o : Obj) : Below B w (World.withBlock w b o) :=
  ⟨rfl, rfl, rfl, by rw [withBlock_size]; omega, fun k hk => withBlock_ne _ _ _ _ (by omega)⟩

section keep
variable {P : Program} {B : Nat} {S : Cells} {w : World} {κ : Kap} {h : Heap}

/-- An object is written where it lies. -/
theorem Inv.write (inv : Inv P B S w κ h) {id : Nat} {k : Ko} (hk : κ id = some k) (obj : Obj) (k' : Ko) (hle : k.le k') (hb : k'.block = k.block) (o' : Ob)
    (hS : ∀ o, S k.block o → (World.withBlock w k.block obj).cell? ⟨k.block, o, none⟩ = w.cell? ⟨k.block, o, none⟩)
    (hO : Sle S w S (World.withBlock w k.block obj) → Kle κ (upd κ id k') → OI P S (World.withBlock w k.block obj) (upd κ id k') id o') :
    Inv P B S (World.withBlock w k.block obj) (upd κ id k') (h.set id o') ∧ Stp B S w κ S (World.withBlock w k.block obj) (upd κ id k') := by
  obtain ⟨hd1, hd2, hd3⟩ := inv.dom _ _ hk
  have sle : Sle S w S (World.withBlock w k.block obj) := ⟨fun _ _ x => x, fun b o x => by
    by_cases e : b = k.block
    · subst e; exact hS o x
    · exact cell?_congr o (withBlock_ne _ _ _ _ e)⟩
  have kle : Kle κ (upd κ id k') := kle_upd fun k0 h0 => by rw [hk] at h0; cases h0; exact hle
  refine ⟨⟨fun i o hi => ?_, fun i j a b ha hb' e => ?_, fun i a ha => ?_, fun b o x => ?_, ?_⟩, below_withBlock w hd2 obj, sle, kle, fun _ _ x => .inl x⟩
  · by_cases e : i = id
    · subst e
      rw [List.getElem?_set_self (by omega)] at hi
      cases hi
      exact hO sle kle
    · rw [List.getElem?_set_ne (Ne.symm e)] at hi
      refine OI.mono sle kle (fun _ _ x => .inl x) (fun a ha => ?_) (inv.obs i o hi)
      have hne : a.block ≠ k.block := fun q => e (inv.dis _ _ _ _ ha hk q)
      exact ⟨(upd_ne _ _ _ _ e).trans ha, withBlock_ne _ _ _ _ hne, (inv.dom _ _ ha).2.2⟩
  · by_cases ei : i = id <;> by_cases ej : j = id
    · rw [ei, ej]
    · subst ei
      rw [upd_same] at ha; cases ha
      rw [upd_ne _ _ _ _ ej] at hb'
      exact inv.dis _ _ _ _ hk hb' (hb.symm.trans e)
    · subst ej
      rw [upd_same] at hb'; cases hb'
      rw [upd_ne _ _ _ _ ei] at ha
      exact inv.dis _ _ _ _ ha hk (e.trans hb)
    · rw [upd_ne _ _ _ _ ei] at ha
      rw [upd_ne _ _ _ _ ej] at hb'
      exact inv.dis _ _ _ _ ha hb' e
  · rw [List.length_set, withBlock_size]
    by_cases ei : i = id
    · subst ei
      rw [upd_same] at ha; cases ha
      rw [hb]; exact ⟨hd1, hd2, hd3⟩
    · rw [upd_ne _ _ _ _ ei] at ha
      exact inv.dom _ _ ha
  · rw [withBlock_size]; exact inv.sb b o x
  · rw [withBlock_size]; exact inv.bw

theorem alloc_size (w : World) (o : Obj) : (w.alloc o).heap.size = w.heap.size + 1 := by simp
theorem alloc_last (w : World) (o : Obj) : (w.alloc o).heap[w.heap.size]? = some o := by
  show (w.heap.push o)[w.heap.size]? = _
  simp

/-- A new object, in a new block: of a new number, or an object that has moved. -/
theorem Inv.fresh (inv : Inv P B S w κ h) (id : Nat) (hid : id ≤ h.length) (obj : Obj) (k' : Ko) (hle : ∀ k, κ id = some k → k.le k') (hb : k'.block = w.heap.size) (h' : Heap)
    (hh : ∀ i o, i ≠ id → h'[i]? = some o → h[i]? = some o) (hl : h.length ≤ h'.length) (hl' : id < h'.length)
    (hO : Sle S w S (w.alloc obj) → Kle κ (upd κ id k') → ∀ o, h'[id]? = some o → OI P S (w.alloc obj) (upd κ id k') id o) :
    Inv P B S (w.alloc obj) (upd κ id k') h' ∧ Stp B S w κ S (w.alloc obj) (upd κ id k') := by
  have sle : Sle S w S (w.alloc obj) := ⟨fun _ _ x => x, fun b o x => cell?_congr o (Below.heap_alloc _ _ _ (inv.sb b o x))⟩
  have kle : Kle κ (upd κ id k') := kle_upd hle
  have hbw := inv.bw
  refine ⟨⟨fun i o hi => ?_, fun i j a b ha hb' e => ?_, fun i a ha => ?_, fun b o x => ?_, ?_⟩, (Below.refl _ _).alloc inv.bw _, sle, kle, fun _ _ x => .inl x⟩
  · by_cases e : i = id
    · subst e; exact hO sle kle o hi
    · refine OI.mono sle kle (fun _ _ x => .inl x) (fun a ha => ?_) (inv.obs i o (hh i o e hi))
      have := (inv.dom _ _ ha).2.2
      exact ⟨(upd_ne _ _ _ _ e).trans ha, Below.heap_alloc _ _ _ this, this⟩
  · by_cases ei : i = id <;> by_cases ej : j = id
    · rw [ei, ej]
    · subst ei
      rw [upd_same] at ha; cases ha
      rw [upd_ne _ _ _ _ ej] at hb'
      have := (inv.dom _ _ hb').2.2
      omega
    · subst ej
      rw [upd_same] at hb'; cases hb'
      rw [upd_ne _ _ _ _ ei] at ha
      have := (inv.dom _ _ ha).2.2
      omega
    · rw [upd_ne _ _ _ _ ei] at ha
      rw [upd_ne _ _ _ _ ej] at hb'
      exact inv.dis _ _ _ _ ha hb' e
  · rw [alloc_size]
    by_cases ei : i = id
    · subst ei
      rw [upd_same] at ha; cases ha
      omega
    · rw [upd_ne _ _ _ _ ei] at ha
      have := inv.dom _ _ ha
      omega
  · rw [alloc_size]; have := inv.sb b o x; omega
  · rw [alloc_size]; omega

/-- A draw changes nothing. -/
theorem Inv.drew (inv : Inv P B S w κ h) {w' : World} (hh : w'.heap = w.heap) (ho : w'.os = w.os) (ht : w'.tape = w.tape) (hu : w'.output = w.output) :
    Inv P B S w' κ h ∧ Stp B S w κ S w' κ := by
  have sle : Sle S w S w' := ⟨fun _ _ x => x, fun b o x => cell?_congr o (by rw [hh])⟩
  refine ⟨⟨fun i o hi => ?_, inv.dis, fun i a ha => by rw [hh]; exact inv.dom i a ha, fun b o x => by rw [hh]; exact inv.sb b o x, by rw [hh]; exact inv.bw⟩,
    ⟨ho, ht, hu, by rw [hh]; exact Nat.le_refl _, fun k _ => by rw [hh]⟩, sle, .refl _, fun _ _ x => .inl x⟩
  exact OI.mono sle (.refl _) (fun _ _ x => .inl x) (fun a ha => ⟨ha, by rw [hh], (inv.dom _ _ ha).2.2⟩) (inv.obs i o hi)
end keep
end Go.Ev

namespace Go.Ev
section
variable {α : Type}
@[simp] theorem fNat_eq (n : Nat) (k : Nat → α) : fNat n k = k n := by cases n <;> rfl
@[simp] theorem fInt_eq (n : Int) (k : Int → α) : fInt n k = k n := by cases n <;> simp [fInt]
@[simp] theorem fBool_eq (n : Bool) (k : Bool → α) : fBool n k = k n := by cases n <;> rfl
@[simp] theorem fS_eq {β : Type} (l : List β) (k : List β → α) : fS l k = k l := by
  induction l generalizing k with
  | nil => rfl
  | cons x r ih => rw [fS, ih]
theorem fU8s_eq (l : List UInt8) (k : List UInt8 → α) : fU8s l k = k l := by
  induction l generalizing k with
  | nil => rfl
  | cons x r ih => rw [fU8s, fNat_eq, ih]; simp
mutual
theorem fV_eq (v : V) (k : V → α) : fV v k = k v := by
  cases v with
  | str s => obtain ⟨⟨l⟩⟩ := s; simp [fV, fU8s_eq]
  | iptr cs => rw [fV]; exact fL_eq cs _
  | arr xs => rw [fV]; exact fR_eq xs _
  | agg cs => rw [fV]; exact fL_eq cs _
  | tup cs => rw [fV]; exact fL_eq cs _
  | ifc t v => rw [fV]; exact fV_eq v _
  | fn f a b => rw [fV, fL_eq a]; exact fL_eq b _
  | _ => simp [fV]
theorem fL_eq (l : List V) (k : List V → α) : fL l k = k l := by
  cases l with
  | nil => rfl
  | cons x r => rw [fL, fV_eq x, fL_eq r]
theorem fR_eq (l : List (List V)) (k : List (List V) → α) : fR l k = k l := by
  cases l with
  | nil => rfl
  | cons x r => rw [fR, fL_eq x, fR_eq r]
end
attribute [simp] fV_eq fL_eq fR_eq
theorem fE_eq (l : List (V × V × Nat)) (k : List (V × V × Nat) → α) : fE l k = k l := by
  induction l generalizing k with
  | nil => rfl
  | cons x r ih => obtain ⟨a, b, n⟩ := x; simp [fE, ih]
@[simp] theorem fOb_eq (o : Ob) (k : Ob → α) : fOb o k = k o := by
  cases o <;> simp [fOb, fE_eq]
end

theorem beqS_iff {a b : ByteArray} : beqS a b = true ↔ a = b := by
  unfold beqS
  rw [beq_iff_eq]
  constructor
  · intro h
    obtain ⟨a⟩ := a
    obtain ⟨b⟩ := b
    have := Array.toList_inj.1 h
    simp_all
  · rintro rfl; rfl

mutual
theorem V.beq_eq (a b : V) (h : V.beq a b = true) : a = b := by
  cases a <;> cases b <;> simp only [V.beq, Bool.and_eq_true, beq_iff_eq, Bool.false_eq_true, beqS_iff] at h
  all_goals first
    | rfl
    | (obtain ⟨⟨⟨rfl, rfl⟩, rfl⟩, rfl⟩ := h; rfl)
    | (obtain ⟨⟨rfl, h1⟩, h2⟩ := h; rw [beqL_eq _ _ h1, beqL_eq _ _ h2])
    | (obtain ⟨rfl, rfl⟩ := h; rfl)
    | (obtain ⟨rfl, h2⟩ := h; rw [V.beq_eq _ _ h2])
    | (rw [h])
    | (rw [beqL_eq _ _ h])
    | (rw [beqR_eq _ _ h])
theorem beqL_eq (a b : List V) (h : beqL a b = true) : a = b := by
  cases a <;> cases b <;> simp only [beqL, Bool.and_eq_true, Bool.false_eq_true] at h
  · rfl
  · rw [V.beq_eq _ _ h.1, beqL_eq _ _ h.2]
theorem beqR_eq (a b : List (List V)) (h : beqR a b = true) : a = b := by
  cases a <;> cases b <;> simp only [beqR, Bool.and_eq_true, Bool.false_eq_true] at h
  · rfl
  · rw [beqL_eq _ _ h.1, beqR_eq _ _ h.2]
end
theorem beqE_eq : ∀ (a b : List (V × V × Nat)), beqE a b = true → a = b
  | [], [], _ => rfl
  | [], _ :: _, h => by simp [beqE] at h
  | _ :: _, [], h => by simp [beqE] at h
  | (a, b, c) :: r, (a', b', c') :: r', h => by
    simp only [beqE, Bool.and_eq_true, beq_iff_eq] at h
    obtain ⟨⟨⟨h1, h2⟩, h3⟩, h4⟩ := h
    rw [V.beq_eq _ _ h1, V.beq_eq _ _ h2, h3, beqE_eq r r' h4]
theorem Ob.beq_eq (a b : Ob) (h : Ob.beq a b = true) : a = b := by
  cases a <;> cases b <;> simp only [Ob.beq, Bool.and_eq_true, beq_iff_eq, Bool.false_eq_true] at h
  · rfl
  · rw [beqL_eq _ _ h]
  · obtain ⟨⟨⟨rfl, h1⟩, rfl⟩, rfl⟩ := h; rw [beqR_eq _ _ h1]
  · obtain ⟨h1, rfl⟩ := h; rw [beqE_eq _ _ h1]
  · rw [h]
theorem beqH_eq : ∀ (a b : Heap), beqH a b = true → a = b
  | [], [], _ => rfl
  | [], _ :: _, h => by simp [beqH] at h
  | _ :: _, [], h => by simp [beqH] at h
  | a :: r, b :: r', h => by
    simp only [beqH, Bool.and_eq_true] at h
    rw [Ob.beq_eq _ _ h.1, beqH_eq r r' h.2]
theorem St.beq_eq (a b : St) (h : St.beq a b = true) : a = b := by
  cases a; cases b
  simp only [St.beq, Bool.and_eq_true, beq_iff_eq] at h
  obtain ⟨⟨h1, rfl⟩, h3⟩ := h
  rw [beqL_eq _ _ h1, beqH_eq _ _ h3]

@[simp] theorem okV_some (h : Heap) (v : V) : okV h (some v) = some (v, h) := by simp [okV]
@[simp] theorem newOb_eq (h : Heap) (v : V) (o : Ob) : newOb h v o = some (v, h ++ [o]) := by simp [newOb]
@[simp] theorem setOb_eq (h : Heap) (id : Nat) (v : V) (o : Ob) : setOb h id v o = some (v, h.set id o) := by simp [setOb]

theorem seq_eq (call : CallF) (lf : Nat) (rnd : Option Nat) (a b : Cc) (s : St) :
    evCode call lf rnd (.seq a b) s = match evCode call lf rnd a s with
      | some (.normal, s') => evCode call lf rnd b s'
      | r => r := rfl
end Go.Ev
