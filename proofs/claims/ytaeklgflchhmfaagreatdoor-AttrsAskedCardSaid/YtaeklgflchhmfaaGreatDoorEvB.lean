/- The compiler: a program's functions as compiled code. What abstract values and heaps say of the machine's. The abstract heap and the machine's: the invariant, and how it is kept. No conditions. -/
import Derived.Test.YtaeklgflchhmfaaGreatDoorEvA
import Derived.Below
set_option maxHeartbeats 16000000
set_option maxRecDepth 100000
set_option linter.unusedVariables false
set_option linter.unusedSimpArgs false
set_option linter.unusedSectionVars false
namespace Go.Ev
def ofCell : Value → Option V
 | .bool b => some (.bool b)
 | .int k n => some (.int k n)
 | .string s => some (.str s)
 | .pointer none => some .nilp
 | .slice none 0 0 => some .nils
 | .map none => some .nilm
 | .nilFunc => some .nilf
 | .nilIface => some .nili
 | .func (.func f) a c => if a.size = 0 ∧ c.size = 0 then some (.fn (.func f) [] []) else none
 | _ => none
def ofCellList : List Value → Option (List V)
 | [] => some []
 | v :: r =>
  match ofCell v, ofCellList r with
  | some x, some xs => some (x :: xs)
  | _, _ => none
def ofConst : Value → Option V
 | .agg cs => (ofCellList cs.toList).map .agg
 | v => ofCell v
def cOd : Operand → Option Od
 | .tmp t => some (.t t)
 | .const v => (ofConst v).map .c
 | .func f => some (.c (.fn (.func f) [] []))
 | .global _ => none
def cOds (l : List Operand) : Option (List Od) := l.mapM cOd
section
variable (P : Program)
def isAggT (t : TypeId) : Option Bool :=
 match P.underlying t with
 | some (.struct _) | some (.array _ _) => some true
 | some _ => some false
 | none => none
def sizeT (t : TypeId) : Option Nat := (P.info? t).map (·.size)
def bytesT (t : TypeId) : Option Nat := (P.info? t).map (·.bytes)
def zeroT (t : TypeId) : Option V := (P.info? t).bind fun i => i.zero.bind ofConst
def aggT (t : TypeId) : Option (Option Nat) :=
 match isAggT P t with
 | some true => (sizeT P t).map some
 | some false => some none
 | none => none
def eqD : Nat → TypeId → Option Eqd
 | 0, _ => none
 | d + 1, t =>
  match P.underlying t with
  | some .bool => some (.leaf .b)
  | some (.int _) => some (.leaf .i)
  | some .string => some (.leaf .s)
  | some (.struct fs) => if P.stoodInHeld t then none else (eqFs (eqD d) fs.toList).bind nn
  | some (.array n e) => (sizeT P e).bind fun s => (aggT P e).bind fun ag => (eqD d e).bind fun q => nn (eqAs s ag q n 0)
  | _ => none
where
 nn (q : Eqd) : Option Eqd :=
  match q with
  | .cons a b c d => some (.cons a b c d)
  | _ => none
 eqFs (go : TypeId → Option Eqd) : List Field → Option Eqd
  | [] => some .nil
  | f :: fs =>
   if f.name = "_" then eqFs go fs
   else
    match go f.type, aggT P f.type, eqFs go fs with
    | some q, some ag, some r => some (.cons f.offset ag q r)
    | _, _, _ => none
 eqAs (s : Nat) (ag : Option Nat) (q : Eqd) : Nat → Nat → Eqd
  | 0, _ => .nil
  | n + 1, i => .cons (i * s) ag q (eqAs s ag q n (i + 1))
def cBin (op : BinOp) (t : TypeId) (x y : Od) : Option Cop :=
 if isEq op then
  match P.underlying t with
  | some (.int _) | some .string => some (.bin op x y)
  | some .bool | some (.struct _) | some (.array _ _) =>
   if P.eqGuardType P.depth t then none
   else (eqD P 20 t).map fun ps => .eqc (op matches .neq) ps x y
  | some (.slice _) => some (.eqn .l (op matches .neq) x y)
  | some (.map _ _) => some (.eqn .m (op matches .neq) x y)
  | some (.func _ _ _) => some (.eqn .f (op matches .neq) x y)
  | some (.pointer _) => some (.eqn .p (op matches .neq) x y)
  | some (.interface _) =>
   match y with
   | .c .nili => some (.inil (op matches .neq) x)
   | _ => none
  | _ => none
 else some (.bin op x y)
def cConv (src dst : TypeId) (x : Od) : Option Cop :=
 match P.underlying src, P.underlying dst with
 | some (.int _), some (.int k) => some (.conv (.int k) x)
 | some .string, some .string => some (.conv .same x)
 | some (.slice e), some .string =>
  match P.underlying e with
  | some (.int .u8) => some (.conv .bytesStr x)
  | _ => none
 | some .string, some (.slice e) =>
  match P.underlying e with
  | some (.int .u8) => some (.conv .strBytes x)
  | _ => none
 | some (.slice _), some (.slice _) => some .halt
 | _, _ => none
def elemT (e : TypeId) : Option (Nat × Nat × List V) :=
 match P.info? e with
 | some i =>
  match i.zero with
  | some v =>
   match ofConst v with
   | some z => if i.size ≠ 0 ∧ i.bytes ≠ 0 ∧ v.cells.size = i.size then some (i.size, i.bytes, z.cells) else none
   | none => none
  | none => none
 | none => none
def cBuiltin (b : Builtin) (ts : List TypeId) (args : List Od) : Option Cop :=
 match b, ts, args with
 | .len, [t], [x] =>
  match P.underlying t with
  | some .string => some (.len .s x)
  | some (.slice _) => some (.len .l x)
  | some (.map _ _) => some (.len .m x)
  | some (.array n _) => some (.mov (.c (.int .i64 n)))
  | some (.pointer a) =>
   match P.underlying a with
   | some (.array n _) => some (.mov (.c (.int .i64 n)))
   | _ => none
  | _ => none
 | .max, _, xs => some (.mx xs)
 | .min, _, xs => some (.mn xs)
 | .append, [t, u], [s, x] =>
  match P.underlying t, P.underlying u with
  | some (.slice e), some (.slice _) | some (.slice e), some .string =>
   (elemT P e).map fun p => .app p.1 p.2.1 s x
  | _, _ => none
 | .copy, [t, u], [d, x] =>
  match P.underlying t, P.underlying u with
  | some (.slice e), some (.slice _) | some (.slice e), some .string => (elemT P e).map fun p => .copy p.1 d x
  | _, _ => none
 | .delete, [t, _], [m, k] =>
  match P.underlying t with
  | some (.map kt _) => (eqD P 20 kt).map fun ks => .del ks m k
  | _ => none
 | .clear, [t], [x] =>
  match P.underlying t with
  | some (.slice e) => (elemT P e).map fun p => .clr p.1 p.2.2 x
  | _ => none
 | _, _, _ => none
def optOd : Option Operand → Option (Option Od)
 | none => some none
 | some x => (cOd x).map some
def cOp (o : Oper) : Option Cop :=
 match o.op with
 | .move x | .assign x => (cOd x).map .mov
 | .pick c a b =>
  match cOd c, cOd a, cOd b with
  | some c, some a, some b => some (.pick c a b)
  | _, _, _ => none
 | .alloc t => (zeroT P t).map fun z => .alloc z.cells
 | .box _ x => (cOd x).map .box
 | .build t parts =>
  match P.underlying t, zeroT P t with
  | some (.struct fs), some (.agg z) =>
   if !(fs.all fun f => (sizeT P f.type).isSome) then none
   else (parts.toList.mapM fun (p : Nat × Operand) =>
    match fs[p.1]?, cOd p.2 with
    | some f, some x => (sizeT P f.type).map fun s => (f.offset, s, x)
    | _, _ => none).map fun l => .build z l
  | some (.array _ e), some (.agg z) =>
   (sizeT P e).bind fun s =>
    (parts.toList.mapM fun (p : Nat × Operand) => (cOd p.2).map fun x => (p.1 * s, s, x)).map fun l => .build z l
  | _, _ => none
 | .buildSlice t len parts =>
  match P.underlying t with
  | some (.slice e) =>
   match elemT P e with
   | some q =>
    if len * q.1 > 2 ^ 24 then none
    else (parts.toList.mapM fun (p : Nat × Operand) => (cOd p.2).map fun x => (p.1, x)).map fun l => .bslice q.2.2 len q.1 l
   | none => none
  | _ => none
 | .load t a =>
  match aggT P t, cOd a with
  | some ag, some x => some (.load ag x)
  | _, _ => some .halt
 | .store t a x =>
  match sizeT P t, cOd a, cOd x with
  | some n, some a, some x => some (.store n a x)
  | _, _, _ => none
 | .nilCheck x => (cOd x).map .nilchk
 | .binOp op t x y _ =>
  match cOd x, cOd y with
  | some x, some y => cBin P op t x y
  | _, _ => none
 | .unOp op _ x => (cOd x).map (.un op)
 | .convert s d x => (cOd x).bind fun x => cConv P s d x
 | .makeInterface t x =>
  match P.underlying t with
  | some (.interface _) => none
  | some _ => (cOd x).map (.mki t)
  | none => none
 | .makeFunc f a b =>
  if isYield f then none
  else
   match cOds a.toList, cOds b.toList with
   | some a, some b => some (.mkf f a b)
   | _, _ => none
 | .makeMap _ none => some .mkm
 | .makeSlice t l c =>
  match P.underlying t with
  | some (.slice e) =>
   match elemT P e, cOd l, cOd c with
   | some q, some l, some c => some (.mks q.2.2 q.1 q.2.1 l c)
   | _, _, _ => none
  | _ => none
 | .slice t x lo hi none =>
  match P.underlying t, cOd x, optOd lo, optOd hi with
  | some .string, some x, some lo, some hi => some (.slice .s 1 x lo hi)
  | some (.slice e), some x, some lo, some hi => (sizeT P e).map fun s => .slice .l s x lo hi
  | _, _, _, _ => none
 | .fieldAddr t x f =>
  match P.underlying t, cOd x with
  | some (.struct fs), some x =>
   (fs[f]?).bind fun g => (sizeT P g.type).bind fun s => if s = 0 then none else some (.faddr g.offset x)
  | _, _ => none
 | .field t x f =>
  match P.underlying t, cOd x with
  | some (.struct fs), some x => (fs[f]?).bind fun g => (aggT P g.type).map fun ag => .field g.offset ag x
  | _, _ => none
 | .indexAddr t x i =>
  match P.underlying t, cOd x, cOd i with
  | some (.slice e), some x, some i => (sizeT P e).bind fun s => if s = 0 then none else some (.iaddr s x i)
  | some (.array n e), some x, some i => (sizeT P e).bind fun s => if s = 0 then none else some (.iaddrA n s x i)
  | _, _, _ => none
 | .index t x i =>
  match P.underlying t, cOd x, cOd i with
  | some .string, some x, some i => some (.idxS x i)
  | some (.array n e), some x, some i =>
   match sizeT P e, aggT P e with
   | some s, some ag => some (.idxA n s ag x i)
   | _, _ => none
  | _, _, _ => none
 | .lookup t m k ok =>
  match P.underlying t, cOd m, cOd k with
  | some (.map kt e), some m, some k =>
   match eqD P 20 kt, zeroT P e with
   | some ks, some z => some (.look ks ok z m k)
   | _, _ => none
  | _, _, _ => none
 | .mapUpdate t m k x | .insert t m k x =>
  match P.underlying t, cOd m, cOd k, cOd x with
  | some (.map kt _), some m, some k, some x => (eqD P 20 kt).map fun ks => .mapup ks m k x
  | _, _, _, _ => none
 | .mapEntry t m k =>
  match P.underlying t, cOd m, cOd k with
  | some (.map kt e), some m, some k =>
   match eqD P 20 kt, zeroT P e with
   | some ks, some z => some (.mapent ks z m k)
   | _, _ => none
  | _, _, _ => none
 | .entryStore _ m s x =>
  match cOd m, cOd s, cOd x with
  | some m, some s, some x => some (.entst m s x)
  | _, _, _ => none
 | .extract t i => (cOd t).map fun x => .ext x i
 | .call c =>
  match c.callee, cOds c.args.toList with
  | .builtin b, some args => cBuiltin P b c.argTypes.toList args
  | .value f, some args => (cOd f).map fun f => .call f args
  | _, _ => none
 | .slice t x lo (some hi) (some mx) =>
  match P.underlying t, cOd x, optOd lo, cOd hi, cOd mx with
  | some (.slice e), some x, some lo, some hi, some mx => (sizeT P e).map fun _ => .slice3 x lo hi mx
  | _, _, _, _, _ => none
 | .range t x =>
  match P.underlying t, cOd x with
  | some .string, some x => some (.rngs x)
  | _, _ => none
 | .next x true => (cOd x).map .nxt
 | _ => none
def cGuard (ops : Array Oper) : Option (Nat × Bool) → Option (Option (Nat × Bool))
 | none => some none
 | some (j, w) => ((ops[j]?).bind (·.dst)).map fun d => some (d, w)
def cOpH (o : Oper) : Option Cop :=
 match cOp P o with
 | some c => some c
 | none => match o.op with
  | .select _ _ => none
  | _ => some .halt
def cOper (ops : Array Oper) (o : Oper) : Option Cp :=
 match cOpH P o, cGuard ops o.guard with
 | some c, some g => some { dst := o.dst, op := c, guard := g }
 | _, _ => none
theorem kZL {ops : Array Oper} {o : Oper} {p : Cp} (h : cOper P ops o = some p) : ∃ c g, cGuard ops o.guard = some g ∧ p = { dst := o.dst, op := c, guard := g } ∧ (cOp P o = some c ∨ c = .halt ∧ ∀ cs b, o.op ≠ .select cs b) := by
 unfold cOper at h
 split at h
 ·rename_i c g hc hg
  cases h
  refine ⟨c, g, hg, rfl, ?_⟩
  unfold cOpH at hc
  split at hc
  ·rename_i c2 h2
   cases hc
   exact .inl h2
  ·split at hc
   ·cases hc
   ·rename_i hn
    cases hc
    exact .inr ⟨rfl, hn⟩
 ·cases h
def afterL (o : Oper) : List Nat := (o.after.toList.filter (Region.binds .any)).map (·.on)
def pureOp : Cop → Bool
 | .mov _ | .pick .. | .build .. | .bin .. | .un .. | .field .. | .faddr .. | .iaddr .. | .iaddrA .. | .idxS .. | .ext .. | .mki .. | .mkf .. | .nilchk _ | .slice .. => true
 | .conv (.int _) _ | .conv .same _ => true
 | _ => false
def freeOp (ops : Array Oper) (i : Nat) (o : Oper) : Bool :=
 (List.range ops.size).all fun j =>
  j == i || (afterL o).contains j || (match ops[j]? with | some p => (afterL p).contains i || o.apart ops p | none => true)
def flOf (ops : Array Oper) (l : List Cp) : List Nat :=
 (List.range ops.size).filter fun i =>
  match ops[i]?, l[i]? with
  | some o, some c => pureOp c.op && freeOp ops i o
  | _, _ => false
def toD (p : Cp) : Cp :=
 match p.op, p.dst with
 | .alloc z, some d => { p with op := .allocD d z }
 | _, _ => p
def dsOf (l : List Cp) : List Nat := l.filterMap fun p => match p.op, p.dst with | .alloc _, some d => some d | _, _ => none
def floats (l : List Cp) : Bool := (l.any fun p => match p.op with | .call _ _ | .bslice .. => true | _ => false) && !(dsOf l).isEmpty
def cCode : Code → Option Cc
 | .skip => some .skip
 | .region _ ops false => (ops.toList.mapM (cOper P ops)).map .region
 | .region _ ops true =>
  (ops.toList.mapM (cOper P ops)).map fun l =>
   if floats l then .seq (.region [⟨none, .resv (dsOf l), none⟩]) (.draw (l.map toD) (ops.toList.map afterL) (flOf ops l)) else .draw l (ops.toList.map afterL) (flOf ops l)
 | .seq a b =>
  match cCode a, cCode b with
  | some a, some b => some (.seq a b)
  | _, _ => none
 | .cond c a b =>
  match cOd c, cCode a, cCode b with
  | some c, some a, some b => some (.cond c a b)
  | _, _, _ => none
 | .block id c => (cCode c).map (.block id)
 | .loop c => (cCode c).map .loop
 | .exit id => some (.exit id)
 | .ret => some .ret
 | .rangeFunc f ps a b =>
  match cOd f, cCode a, cCode b with
  | some f, some a, some b => some (.rfunc f ps.toList a b)
  | _, _, _ => none
 | _ => none
def cRes : ResultVar → Option Rv
 | .tmp t => some (.tmp t)
 | .cell a t => (aggT P t).map (.cell a)
def cFunc (pure : Bool) (fn : Func) : Option Cf :=
 match fn.body with
 | some c =>
  match cCode P c, fn.results.toList.mapM cRes' with
  | some b, some r => some { ntmps := fn.ntmps, results := r, body := b, pure }
  | _, _ => none
 | none => none
where cRes' : ResultVar → Option Rv := fun r => cRes P r
end
inductive Ko where
 | blk (b : Nat)
 | row (ep b st cp sz : Nat)
abbrev Kap := Nat → Option Ko
abbrev Cells := Nat → Nat → Prop
def noK : Kap := fun _ => none
section
variable (S : Cells) (w : World)
mutual
def RV (κ : Kap) : V → Value → Prop
 | .undef, _ => True
 | .bool b, v => v = .bool b
 | .int k n, v => v = .int k n
 | .str s, v => v = .string s
 | .nilp, v => v = .pointer none
 | .ptr id off, v => ∃ b, κ id = some (.blk b) ∧ v = .pointer (some ⟨b, off, none⟩)
 | .eptr id ep idx off, v => ∃ e b st cp sz p, κ id = some (.row e b st cp sz) ∧ ep ≤ e ∧ v = .pointer (some p) ∧
   (ep = e → st ≤ idx ∧ p = ⟨b, (idx - st) * sz + off, none⟩)
 | .iptr cs, v => ∃ b o, v = .pointer (some ⟨b, o, none⟩) ∧ RC cs b o
 | .nils, v => v = .slice none 0 0
 | .nile, v => ∃ a, v = .slice a 0 0
 | .arr xs, v => ∃ a cap, v = .slice a xs.length cap ∧ xs.length ≤ cap ∧
   (xs = [] ∨ ∃ b o sz, a = some ⟨b, o, none⟩ ∧ RE xs b o sz)
 | .sl id ep off len, v => ∃ e b st cp sz a c, κ id = some (.row e b st cp sz) ∧ ep ≤ e ∧ v = .slice (some a) len c ∧ len ≤ c ∧
   (ep = e → st ≤ off ∧ off + len ≤ st + cp ∧ c = st + cp - off ∧ (c = 0 ∨ a = ⟨b, (off - st) * sz, none⟩))
 | .nilm, v => v = .map none
 | .map id, v => ∃ b, κ id = some (.blk b) ∧ v = .map (some b)
 | .nilf, v => v = .nilFunc
 | .fn (.yield l) a c, v => ∃ b, κ l = some (.blk b) ∧ v = .func (.yield b) #[] #[] ∧ a = [] ∧ c = []
 | .fn f a c, v => ∃ a' c', v = .func f a' c' ∧ RL κ a a'.toList ∧ RL κ c c'.toList
 | .nili, v => v = .nilIface
 | .ifc t x, v => ∃ u, v = .iface t u ∧ RV κ x u
 | .agg cs, v => ∃ a, v = .agg a ∧ RL κ cs a.toList
 | .tup cs, v => ∃ a, v = .tuple a ∧ RL κ cs a.toList
def RL (κ : Kap) : List V → List Value → Prop
 | [], [] => True
 | x :: xs, v :: vs => RV κ x v ∧ RL κ xs vs
 | _, _ => False
def RC : List V → Nat → Nat → Prop
 | [], _, _ => True
 | x :: xs, b, o => S b o ∧ (∃ c, w.cell? ⟨b, o, none⟩ = some c ∧ x.isCell = true ∧ RV noK x c) ∧ RC xs b (o + 1)
def RE : List (List V) → Nat → Nat → Nat → Prop
 | [], _, _, _ => True
 | e :: es, b, o, sz => e.length = sz ∧ RC e b o ∧ RE es b (o + sz) sz
end
end
inductive Ko.le : Ko → Ko → Prop
 | blk (b : Nat) : Ko.le (.blk b) (.blk b)
 | same (ep b st cp sz : Nat) : Ko.le (.row ep b st cp sz) (.row ep b st cp sz)
 | later (ep b st cp sz ep' b' st' cp' : Nat) (h : ep < ep') : Ko.le (.row ep b st cp sz) (.row ep' b' st' cp' sz)
def Kle (κ κ' : Kap) : Prop := ∀ id k, κ id = some k → ∃ k', κ' id = some k' ∧ k.le k'
theorem Ko.le.refl (k : Ko) : k.le k := by cases k <;> constructor
theorem Ko.le.trans {a b c : Ko} (h : a.le b) (k : b.le c) : a.le c := by
 cases h <;> cases k
 ·exact .blk _
 ·exact .same ..
 ·exact .later _ _ _ _ _ _ _ _ _ (by assumption)
 ·exact .later _ _ _ _ _ _ _ _ _ (by assumption)
 ·exact .later _ _ _ _ _ _ _ _ _ (by omega)
theorem Kle.refl (κ : Kap) : Kle κ κ := fun id k h => ⟨k, h, .refl k⟩
theorem Kle.trans {a b c : Kap} (h : Kle a b) (k : Kle b c) : Kle a c := fun id x hx =>
 let ⟨y, hy, l⟩ := h id x hx
 let ⟨z, hz, m⟩ := k id y hy
 ⟨z, hz, l.trans m⟩
def Sle (S : Cells) (w : World) (S' : Cells) (w' : World) : Prop :=
 (∀ b o, S b o → S' b o) ∧ ∀ b o, S b o → w'.cell? ⟨b, o, none⟩ = w.cell? ⟨b, o, none⟩
theorem Sle.refl (S : Cells) (w : World) : Sle S w S w := ⟨fun _ _ h => h, fun _ _ _ => rfl⟩
theorem Sle.trans {S S' S'' : Cells} {w w' w'' : World} (h : Sle S w S' w') (k : Sle S' w' S'' w'') : Sle S w S'' w'' :=
 ⟨fun b o x => k.1 b o (h.1 b o x), fun b o x => (k.2 b o (h.1 b o x)).trans (h.2 b o x)⟩
section mono
variable {S S' : Cells} {w w' : World} (hs : Sle S w S' w')
include hs
mutual
theorem RV.mono {κ κ' : Kap} (hk : Kle κ κ') (x : V) (v : Value) (h : RV S w κ x v) : RV S' w' κ' x v := by
 cases x with
 | undef => trivial
 | bool b => simpa [RV] using h
 | int k n => simpa [RV] using h
 | str s => simpa [RV] using h
 | nilp => simpa [RV] using h
 | nils => simpa [RV] using h
 | nile => simpa [RV] using h
 | nilm => simpa [RV] using h
 | nilf => simpa [RV] using h
 | nili => simpa [RV] using h
 | ptr id off =>
  simp only [RV] at h ⊢
  obtain ⟨b, hb, e⟩ := h
  obtain ⟨k', hk', l⟩ := hk _ _ hb
  cases l
  exact ⟨b, hk', e⟩
 | map id =>
  simp only [RV] at h ⊢
  obtain ⟨b, hb, e⟩ := h
  obtain ⟨k', hk', l⟩ := hk _ _ hb
  cases l
  exact ⟨b, hk', e⟩
 | eptr id ep idx off =>
  simp only [RV] at h ⊢
  obtain ⟨e, b, st, cp, sz, p, hb, le, hv, f⟩ := h
  obtain ⟨k', hk', l⟩ := hk _ _ hb
  cases l with
  | same => exact ⟨e, b, st, cp, sz, p, hk', le, hv, f⟩
  | later _ _ _ _ _ ep' b' st' cp' hlt => exact ⟨ep', b', st', cp', sz, p, hk', by omega, hv, fun q => by omega⟩
 | sl id ep off len =>
  simp only [RV] at h ⊢
  obtain ⟨e, b, st, cp, sz, a, c, hb, le, hv, hl, f⟩ := h
  obtain ⟨k', hk', l⟩ := hk _ _ hb
  cases l with
  | same => exact ⟨e, b, st, cp, sz, a, c, hk', le, hv, hl, f⟩
  | later _ _ _ _ _ ep' b' st' cp' hlt => exact ⟨ep', b', st', cp', sz, a, c, hk', by omega, hv, hl, fun q => by omega⟩
 | iptr cs =>
  simp only [RV] at h ⊢
  obtain ⟨b, o, e, r⟩ := h
  exact ⟨b, o, e, RC.mono cs b o r⟩
 | arr xs =>
  simp only [RV] at h ⊢
  obtain ⟨a, cap, e, l, r⟩ := h
  refine ⟨a, cap, e, l, ?_⟩
  rcases r with r | ⟨b, o, sz, ea, r⟩
  ·exact .inl r
  ·exact .inr ⟨b, o, sz, ea, RE.mono xs b o sz r⟩
 | fn f a c =>
  cases f with
  | yield l =>
   simp only [RV] at h ⊢
   obtain ⟨b, hb, e⟩ := h
   obtain ⟨k', hk', l⟩ := hk _ _ hb
   cases l
   exact ⟨b, hk', e⟩
  | _ =>
   simp only [RV] at h ⊢
   obtain ⟨a', c', e, r, q⟩ := h
   exact ⟨a', c', e, RL.mono hk a _ r, RL.mono hk c _ q⟩
 | ifc t x =>
  simp only [RV] at h ⊢
  obtain ⟨u, e, r⟩ := h
  exact ⟨u, e, RV.mono hk x u r⟩
 | agg cs =>
  simp only [RV] at h ⊢
  obtain ⟨a, e, r⟩ := h
  exact ⟨a, e, RL.mono hk cs _ r⟩
 | tup cs =>
  simp only [RV] at h ⊢
  obtain ⟨a, e, r⟩ := h
  exact ⟨a, e, RL.mono hk cs _ r⟩
theorem RL.mono {κ κ' : Kap} (hk : Kle κ κ') (xs : List V) (vs : List Value) (h : RL S w κ xs vs) : RL S' w' κ' xs vs := by
 cases xs with
 | nil => cases vs with
  | nil => trivial
  | cons v vs => simp [RL] at h
 | cons x xs => cases vs with
  | nil => simp [RL] at h
  | cons v vs =>
   simp only [RL] at h ⊢
   exact ⟨RV.mono hk x v h.1, RL.mono hk xs vs h.2⟩
theorem RC.mono (xs : List V) (b o : Nat) (h : RC S w xs b o) : RC S' w' xs b o := by
 cases xs with
 | nil => trivial
 | cons x xs =>
  simp only [RC] at h ⊢
  obtain ⟨s, ⟨c, hc, i, r⟩, t⟩ := h
  exact ⟨hs.1 b o s, ⟨c, (hs.2 b o s).trans hc, i, RV.mono (.refl _) x c r⟩, RC.mono xs b (o + 1) t⟩
theorem RE.mono (xs : List (List V)) (b o sz : Nat) (h : RE S w xs b o sz) : RE S' w' xs b o sz := by
 cases xs with
 | nil => trivial
 | cons x xs =>
  simp only [RE] at h ⊢
  exact ⟨h.1, RC.mono x b o h.2.1, RE.mono xs b (o + sz) sz h.2.2⟩
end
end mono
open Go.RowKit
def Ko.block : Ko → Nat
 | .blk b => b
 | .row _ b _ _ _ => b
def NF (fr : Nat × Nat) (n : Nat) : Prop := ∀ o, o < n → ¬ (fr.1 ≤ o ∧ o < fr.2)
def NR (sz : Nat) (fr : Nat × Nat) (n : Nat) : Prop := NF fr n ∧ (sz ≠ 1 → NF fr (n + 1))
def ME (S : Cells) (w : World) (κ : Kap) : List (V × V × Nat) → List MapEntry → Prop
 | [], [] => True
 | x :: xs, e :: es => RV S w κ x.1 e.key ∧ RV S w κ x.2.1 e.val ∧ x.2.2 = e.born ∧ ME S w κ xs es
 | _, _ => False
def PJ : Option Ex → Option Code → Prop
 | none, none => True
 | some .ret, some .ret => True
 | some (.exit i), some (.exit j) => i = j
 | _, _ => False
def RR (S : Cells) (w : World) (κ : Kap) (xs : List (List V)) (st sz : Nat) (c : List Value) : Prop :=
 ∀ (i : Nat) (e : List V), st ≤ i → xs[i]? = some e → RL S w κ e ((c.drop ((i - st) * sz)).take sz)
def OI (P : Program) (S : Cells) (w : World) (κ : Kap) (id : Nat) : Ob → Prop
 | .dead => True
 | .cells cs => ∃ b c el fr, κ id = some (.blk b) ∧ w.heap[b]? = some (.cells c el fr) ∧ NF fr c.size ∧
   RL S w κ cs c.toList ∧ cs.all V.isCell = true ∧ ∀ o, ¬ S b o
 | .row sz xs ep wr => ∃ b st cp c el fr, κ id = some (.row ep b st cp sz) ∧ w.heap[b]? = some (.cells c el fr) ∧ NR sz fr c.size ∧
   0 < sz ∧ c.size = cp * sz ∧ st ≤ xs.length ∧ xs.length ≤ st + cp ∧ (∀ e ∈ xs, e.length = sz ∧ e.all V.isCell = true) ∧
   RR S w κ xs st sz c.toList ∧
   (∀ o, (xs.length - st) * sz ≤ o → ¬ S b o) ∧ (wr = true → ∀ o, ¬ S b o)
 | .map es clock => ∃ b es', κ id = some (.blk b) ∧ w.heap[b]? = some (.map es' clock) ∧ ME S w κ es es'.toList
 | .loop st pend env ps asg body df => ∃ b db l, κ id = some (.blk b) ∧ w.heap[b]? = some (.loop l) ∧ l.state = st ∧
   PJ pend l.pending ∧ RL S w κ env l.tmps.toList ∧ l.params.toList = ps ∧ cCode P l.assign = some asg ∧ cCode P l.body = some body ∧
   κ df = some (.blk db) ∧ l.defers = db
 | .defr t => ∃ b, κ id = some (.blk b) ∧ w.heap[b]? = some (.deferred (if t then none else some []))
 | .iter s pos => ∃ b, κ id = some (.blk b) ∧ w.heap[b]? = some (.stringIter s pos)
 | .resv _ => κ id = none
abbrev Glob := World
structure Base (G : Glob) where
 n : Nat
 le : G.heap.size ≤ n
instance (G : Glob) : CoeOut (Base G) Nat := ⟨Base.n⟩
def Kept (G : Glob) (w : World) : Prop := ∀ k, k < G.heap.size → w.heap[k]? = G.heap[k]?
theorem Kept.below {G : Glob} {B : Base G} {w w' : World} (h : Kept G w) (b : Below B w w') : Kept G w' := fun k hk => (b.block k (Nat.lt_of_lt_of_le hk B.le)).trans (h k hk)
structure Inv (P : Program) {G : Glob} (B : Base G) (S : Cells) (w : World) (κ : Kap) (h : Heap) : Prop where
 obs : ∀ id o, h[id]? = some o → OI P S w κ id o
 dis : ∀ id id' k k', κ id = some k → κ id' = some k' → k.block = k'.block → id = id'
 dom : ∀ id k, κ id = some k → id < h.length ∧ B ≤ k.block ∧ k.block < w.heap.size
 sb : ∀ b o, S b o → b < w.heap.size
 bw : B ≤ w.heap.size
 gl : Kept G w
structure Stp {G : Glob} (B : Base G) (S : Cells) (w : World) (κ : Kap) (S' : Cells) (w' : World) (κ' : Kap) : Prop where
 below : Below B w w'
 sle : Sle S w S' w'
 kle : Kle κ κ'
 new : ∀ b o, S' b o → S b o ∨ B ≤ b
theorem Stp.refl {G : Glob} (B : Base G) (S : Cells) (w : World) (κ : Kap) : Stp B S w κ S w κ := ⟨.refl _ _, .refl _ _, .refl _, fun _ _ h => .inl h⟩
theorem Stp.trans {G : Glob} {B : Base G} {S S' S'' : Cells} {w w' w'' : World} {κ κ' κ'' : Kap} (h : Stp B S w κ S' w' κ') (k : Stp B S' w' κ' S'' w'' κ'') :
  Stp B S w κ S'' w'' κ'' :=
 ⟨h.below.trans k.below, h.sle.trans k.sle, h.kle.trans k.kle, fun b o x => (k.new b o x).elim (h.new b o) .inr⟩
section mono
variable {P : Program} {S S' : Cells} {w w' : World} {κ κ' : Kap}
theorem ME.mono (hs : Sle S w S' w') (hk : Kle κ κ') : ∀ (xs : List (V × V × Nat)) (es : List MapEntry), ME S w κ xs es → ME S' w' κ' xs es
 | [], [], _ => trivial
 | [], _ :: _, h => h.elim
 | _ :: _, [], h => h.elim
 | x :: xs, e :: es, h => ⟨RV.mono hs hk _ _ h.1, RV.mono hs hk _ _ h.2.1, h.2.2.1, ME.mono hs hk xs es h.2.2.2⟩
theorem OI.mono (hs : Sle S w S' w') (hk : Kle κ κ') (hnew : ∀ b o, S' b o → S b o ∨ w.heap.size ≤ b) {id : Nat} {o : Ob}
  (hid : ∀ k, κ id = some k → κ' id = some k ∧ w'.heap[k.block]? = w.heap[k.block]? ∧ k.block < w.heap.size)
  (hno : κ id = none → κ' id = none) (h : OI P S w κ id o) : OI P S' w' κ' id o := by
 cases o with
 | dead => trivial
 | resv d => exact hno h
 | cells cs =>
  obtain ⟨b, c, el, fr, hb, hc, nf, r, ic, ns⟩ := h
  obtain ⟨e1, e2, e3⟩ := hid _ hb
  refine ⟨b, c, el, fr, e1, e2.trans hc, nf, RL.mono hs hk _ _ r, ic, fun o x => ?_⟩
  rcases hnew b o x with y | y
  ·exact ns o y
  ·have : b < w.heap.size := e3
   omega
 | row sz xs ep wr =>
  obtain ⟨b, st, cp, c, el, fr, hb, hc, nf, h0, hsz, h1, h2, hl, r, f1, f2⟩ := h
  obtain ⟨e1, e2, e3⟩ := hid _ hb
  have e3' : b < w.heap.size := e3
  refine ⟨b, st, cp, c, el, fr, e1, e2.trans hc, nf, h0, hsz, h1, h2, hl, fun i e hi he => RL.mono hs hk _ _ (r i e hi he), fun o ho x => ?_, fun hw o x => ?_⟩
  ·rcases hnew b o x with y | y
   ·exact f1 o ho y
   ·omega
  ·rcases hnew b o x with y | y
   ·exact f2 hw o y
   ·omega
 | map es clock =>
  obtain ⟨b, es', hb, hc, r⟩ := h
  obtain ⟨e1, e2, e3⟩ := hid _ hb
  exact ⟨b, es', e1, e2.trans hc, ME.mono hs hk _ _ r⟩
 | loop st pend env ps asg body df =>
  obtain ⟨b, db, l, hb, hc, h1, h2, h3, h4, h5, h6, h7, h8⟩ := h
  obtain ⟨e1, e2, e3⟩ := hid _ hb
  obtain ⟨k', hk', le⟩ := hk _ _ h7
  cases le
  exact ⟨b, db, l, e1, e2.trans hc, h1, h2, RL.mono hs hk _ _ h3, h4, h5, h6, hk', h8⟩
 | defr t =>
  obtain ⟨b, hb, hc⟩ := h
  obtain ⟨e1, e2, e3⟩ := hid _ hb
  exact ⟨b, e1, e2.trans hc⟩
 | iter s pos =>
  obtain ⟨b, hb, hc⟩ := h
  obtain ⟨e1, e2, e3⟩ := hid _ hb
  exact ⟨b, e1, e2.trans hc⟩
end mono
def upd (κ : Kap) (id : Nat) (k : Ko) : Kap := fun i => if i = id then some k else κ i
theorem qZo (κ : Kap) (id : Nat) (k : Ko) : upd κ id k id = some k := by simp [upd]
theorem vZz (κ : Kap) (id : Nat) (k : Ko) (i : Nat) (h : i ≠ id) : upd κ id k i = κ i := by simp [upd, h]
theorem kle_upd {κ : Kap} {id : Nat} {k : Ko} (h : ∀ k0, κ id = some k0 → k0.le k) : Kle κ (upd κ id k) := fun i k0 h0 => by
 by_cases e : i = id
 ·subst e; exact ⟨k, qZo .., h k0 h0⟩
 ·exact ⟨k0, (vZz _ _ _ _ e).trans h0, .refl _⟩
def World.withBlock (w : World) (b : Nat) (o : Obj) : World := { w with heap := w.heap.setIfInBounds b o }
theorem vZT (w : World) (b : Nat) (o : Obj) : (World.withBlock w b o).heap.size = w.heap.size := by simp [World.withBlock]
theorem wZ1 (w : World) (b : Nat) (o : Obj) (i : Nat) (h : i ≠ b) : (World.withBlock w b o).heap[i]? = w.heap[i]? := by
 simp [World.withBlock, Array.getElem?_setIfInBounds_ne (Ne.symm h)]
theorem qZH (w : World) (b : Nat) (o : Obj) (h : b < w.heap.size) : (World.withBlock w b o).heap[b]? = some o := by
 simp [World.withBlock, h]
theorem wZi (w : World) (b o : Nat) {c : Array Value} {el : TypeId} {fr : Nat × Nat} (h : w.heap[b]? = some (.cells c el fr)) :
  w.cell? ⟨b, o, none⟩ = c[o]? := by
 simp [World.cell?, h]
theorem wZb {w w' : World} {b : Nat} (o : Nat) (h : w'.heap[b]? = w.heap[b]?) : w'.cell? ⟨b, o, none⟩ = w.cell? ⟨b, o, none⟩ := by
 simp [World.cell?, h]
theorem wZR {B : Nat} (w : World) {b : Nat} (h : B ≤ b) (o : Obj) : Below B w (World.withBlock w b o) :=
 ⟨rfl, rfl, rfl, by rw [vZT]; omega, fun k hk => wZ1 _ _ _ _ (by omega)⟩
section keep
variable {P : Program} {G : Glob} {B : Base G} {S : Cells} {w : World} {κ : Kap} {h : Heap}
theorem Inv.write (inv : Inv P B S w κ h) {id : Nat} {k : Ko} (hk : κ id = some k) (obj : Obj) (k' : Ko) (hle : k.le k') (hb : k'.block = k.block) (o' : Ob)
  (hS : ∀ o, S k.block o → (World.withBlock w k.block obj).cell? ⟨k.block, o, none⟩ = w.cell? ⟨k.block, o, none⟩)
  (hO : Sle S w S (World.withBlock w k.block obj) → Kle κ (upd κ id k') → OI P S (World.withBlock w k.block obj) (upd κ id k') id o') :
  Inv P B S (World.withBlock w k.block obj) (upd κ id k') (h.set id o') ∧ Stp B S w κ S (World.withBlock w k.block obj) (upd κ id k') := by
 obtain ⟨hd1, hd2, hd3⟩ := inv.dom _ _ hk
 have sle : Sle S w S (World.withBlock w k.block obj) := ⟨fun _ _ x => x, fun b o x => by
  by_cases e : b = k.block
  ·subst e; exact hS o x
  ·exact wZb o (wZ1 _ _ _ _ e)⟩
 have kle : Kle κ (upd κ id k') := kle_upd fun k0 h0 => by rw [hk] at h0; cases h0; exact hle
 refine ⟨⟨fun i o hi => ?_, fun i j a b ha hb' e => ?_, fun i a ha => ?_, fun b o x => ?_, ?_, inv.gl.below (B := B) (wZR w hd2 obj)⟩, wZR w hd2 obj, sle, kle, fun _ _ x => .inl x⟩
 ·by_cases e : i = id
  ·subst e
   rw [List.getElem?_set_self (by omega)] at hi
   cases hi
   exact hO sle kle
  ·rw [List.getElem?_set_ne (Ne.symm e)] at hi
   refine OI.mono sle kle (fun _ _ x => .inl x) (fun a ha => ?_) (fun ha => (vZz _ _ _ _ e).trans ha) (inv.obs i o hi)
   have hne : a.block ≠ k.block := fun q => e (inv.dis _ _ _ _ ha hk q)
   exact ⟨(vZz _ _ _ _ e).trans ha, wZ1 _ _ _ _ hne, (inv.dom _ _ ha).2.2⟩
 ·by_cases ei : i = id <;> by_cases ej : j = id
  ·rw [ei, ej]
  ·subst ei
   rw [qZo] at ha; cases ha
   rw [vZz _ _ _ _ ej] at hb'
   exact inv.dis _ _ _ _ hk hb' (hb.symm.trans e)
  ·subst ej
   rw [qZo] at hb'; cases hb'
   rw [vZz _ _ _ _ ei] at ha
   exact inv.dis _ _ _ _ ha hk (e.trans hb)
  ·rw [vZz _ _ _ _ ei] at ha
   rw [vZz _ _ _ _ ej] at hb'
   exact inv.dis _ _ _ _ ha hb' e
 ·rw [List.length_set, vZT]
  by_cases ei : i = id
  ·subst ei
   rw [qZo] at ha; cases ha
   rw [hb]; exact ⟨hd1, hd2, hd3⟩
  ·rw [vZz _ _ _ _ ei] at ha
   exact inv.dom _ _ ha
 ·rw [vZT]; exact inv.sb b o x
 ·rw [vZT]; exact inv.bw
theorem vZM (w : World) (o : Obj) : (w.alloc o).heap.size = w.heap.size + 1 := by simp
theorem vZt (w : World) (o : Obj) : (w.alloc o).heap[w.heap.size]? = some o := by
 show (w.heap.push o)[w.heap.size]? = _
 simp
theorem Inv.fresh (inv : Inv P B S w κ h) (id : Nat) (hid : id ≤ h.length) (obj : Obj) (k' : Ko) (hle : ∀ k, κ id = some k → k.le k') (hb : k'.block = w.heap.size) (h' : Heap)
  (hh : ∀ i o, i ≠ id → h'[i]? = some o → h[i]? = some o) (hl : h.length ≤ h'.length) (hl' : id < h'.length)
  (hO : Sle S w S (w.alloc obj) → Kle κ (upd κ id k') → ∀ o, h'[id]? = some o → OI P S (w.alloc obj) (upd κ id k') id o) :
  Inv P B S (w.alloc obj) (upd κ id k') h' ∧ Stp B S w κ S (w.alloc obj) (upd κ id k') := by
 have sle : Sle S w S (w.alloc obj) := ⟨fun _ _ x => x, fun b o x => wZb o (Below.heap_alloc _ _ _ (inv.sb b o x))⟩
 have kle : Kle κ (upd κ id k') := kle_upd hle
 have hbw := inv.bw
 refine ⟨⟨fun i o hi => ?_, fun i j a b ha hb' e => ?_, fun i a ha => ?_, fun b o x => ?_, ?_, inv.gl.below (B := B) ((Below.refl _ _).alloc inv.bw _)⟩, (Below.refl _ _).alloc inv.bw _, sle, kle, fun _ _ x => .inl x⟩
 ·by_cases e : i = id
  ·subst e; exact hO sle kle o hi
  ·refine OI.mono sle kle (fun _ _ x => .inl x) (fun a ha => ?_) (fun ha => (vZz _ _ _ _ e).trans ha) (inv.obs i o (hh i o e hi))
   have := (inv.dom _ _ ha).2.2
   exact ⟨(vZz _ _ _ _ e).trans ha, Below.heap_alloc _ _ _ this, this⟩
 ·by_cases ei : i = id <;> by_cases ej : j = id
  ·rw [ei, ej]
  ·subst ei
   rw [qZo] at ha; cases ha
   rw [vZz _ _ _ _ ej] at hb'
   have := (inv.dom _ _ hb').2.2
   omega
  ·subst ej
   rw [qZo] at hb'; cases hb'
   rw [vZz _ _ _ _ ei] at ha
   have := (inv.dom _ _ ha).2.2
   omega
  ·rw [vZz _ _ _ _ ei] at ha
   rw [vZz _ _ _ _ ej] at hb'
   exact inv.dis _ _ _ _ ha hb' e
 ·rw [vZM]
  by_cases ei : i = id
  ·subst ei
   rw [qZo] at ha; cases ha
   omega
  ·rw [vZz _ _ _ _ ei] at ha
   have := inv.dom _ _ ha
   omega
 ·rw [vZM]; have := inv.sb b o x; omega
 ·rw [vZM]; omega
theorem Inv.drew (inv : Inv P B S w κ h) {w' : World} (hh : w'.heap = w.heap) (ho : w'.os = w.os) (ht : w'.tape = w.tape) (hu : w'.output = w.output) :
  Inv P B S w' κ h ∧ Stp B S w κ S w' κ := by
 have sle : Sle S w S w' := ⟨fun _ _ x => x, fun b o x => wZb o (by rw [hh])⟩
 refine ⟨⟨fun i o hi => ?_, inv.dis, fun i a ha => by rw [hh]; exact inv.dom i a ha, fun b o x => by rw [hh]; exact inv.sb b o x, by rw [hh]; exact inv.bw, fun k hk => by rw [hh]; exact inv.gl k hk⟩,
  ⟨ho, ht, hu, by rw [hh]; exact Nat.le_refl _, fun k _ => by rw [hh]⟩, sle, .refl _, fun _ _ x => .inl x⟩
 exact OI.mono sle (.refl _) (fun _ _ x => .inl x) (fun a ha => ⟨ha, by rw [hh], (inv.dom _ _ ha).2.2⟩) id (inv.obs i o hi)
end keep
end Go.Ev
