/- Values that are worked out, as rewriting rules. Calls of pure functions: what is handed over, and handed back, frozen. Running code by rewriting, with no words under binders. No conditions. -/
import Derived.Test.YtaeklgflchhmfaaGreatDoorEwG
set_option maxHeartbeats 16000000
set_option maxRecDepth 100000
set_option linter.unusedVariables false
set_option linter.unusedSimpArgs false
set_option linter.unusedSectionVars false
namespace Go.Ev
section
variable {h : Heap}
theorem okCells_one (c : V) (r : List V) : okCells h none (some (c :: r)) = some (c, h) := rfl
theorem xZg {n : Nat} {cs : List V} (hn : n ≤ cs.length) : okCells h (some n) (some cs) = some (.agg (cs.take n), h) := by simp [okCells, hn, fS_eq]
theorem cellsAt_iptr (cs : List V) : cellsAt h (.iptr cs) = some cs := rfl
theorem wZc {id off : Nat} {cs : List V} (hh : h[id]? = some (.cells cs)) : cellsAt h (.ptr id off) = some (cs.drop off) := by simp [cellsAt, hh]
theorem faddr_ptr (n id o : Nat) : faddrV n (.ptr id o) = some (.ptr id (o + n)) := rfl
theorem faddr_iptr {n : Nat} {cs : List V} (hn : n ≤ cs.length) : faddrV n (.iptr cs) = some (.iptr (cs.drop n)) := by simp [faddrV, hn]
theorem qZU {α : Type} {enc : α → List V} {l : List α} {sz : Nat} (hs : ∀ x, (enc x).length = sz) {k : IntKind} {i : Nat} {x : α} (hx : l[i]? = some x) :
  iaddrV h sz (.arr (l.map enc)) (.int k i) = some (.iptr (enc x)) := by
 have hi := (List.getElem?_eq_some_iff.1 hx).1
 have : ((i : Int) < (l.length : Int)) := by omega
 simp [iaddrV, this, hx, hs]
theorem vZy {α : Type} {enc : α → List V} {l : List α} {sz : Nat} (hs : ∀ x, (enc x).length = sz) {k : IntKind} {n : Int} (h0 : 0 ≤ n) {x : α} (hx : l[n.toNat]? = some x) :
  iaddrV h sz (.arr (l.map enc)) (.int k n) = some (.iptr (enc x)) := by
 have := qZU (h := h) hs (k := k) hx
 rwa [Int.toNat_of_nonneg h0] at this
theorem vZY (xs : List (List V)) : evLen h .l (.arr xs) = some (.int .i64 xs.length, h) := by simp [evLen, lenV, qZ5]
theorem len_str (s : ByteArray) : evLen h .s (.str s) = some (.int .i64 s.size, h) := by simp [evLen, lenV, qZ5]
theorem bin_add (k : IntKind) (a b : Int) : binV .add (.int k a) (.int k b) = some (.int k (k.wrap (a + b))) := by simp [binV]
theorem bin_sub (k : IntKind) (a b : Int) : binV .sub (.int k a) (.int k b) = some (.int k (k.wrap (a - b))) := by simp [binV]
theorem bin_mul (k : IntKind) (a b : Int) : binV .mul (.int k a) (.int k b) = some (.int k (k.wrap (a * b))) := by simp [binV]
theorem bin_eql (k : IntKind) (a b : Int) : binV .eql (.int k a) (.int k b) = some (.bool (a == b)) := by simp [binV, intCmp]
theorem bin_neq (k : IntKind) (a b : Int) : binV .neq (.int k a) (.int k b) = some (.bool (a != b)) := by simp [binV, intCmp]
theorem bin_lss (k : IntKind) (a b : Int) : binV .lss (.int k a) (.int k b) = some (.bool (decide (a < b))) := by simp [binV, intCmp]
theorem bin_leq (k : IntKind) (a b : Int) : binV .leq (.int k a) (.int k b) = some (.bool (decide (a ≤ b))) := by simp [binV, intCmp]
theorem bin_gtr (k : IntKind) (a b : Int) : binV .gtr (.int k a) (.int k b) = some (.bool (decide (a > b))) := by simp [binV, intCmp]
theorem bin_geq (k : IntKind) (a b : Int) : binV .geq (.int k a) (.int k b) = some (.bool (decide (a ≥ b))) := by simp [binV, intCmp]
theorem bin_seql (a b : ByteArray) : binV .eql (.str a) (.str b) = some (.bool (beqS a b)) := rfl
theorem bin_sneq (a b : ByteArray) : binV .neq (.str a) (.str b) = some (.bool (!(beqS a b))) := rfl
theorem un_not (b : Bool) : unV .not (.bool b) = some (.bool (!b)) := rfl
theorem pick_bool {env : List V} {c a b : Od} {t : Bool} (hc : c.ev env = .bool t) : evPick env h c a b = some (if t then a.ev env else b.ev env, h) := by
 cases t <;> simp [evPick, hc]
theorem wrap64 {n : Int} (h1 : -9223372036854775808 ≤ n) (h2 : n < 9223372036854775808) : IntKind.i64.wrap n = n := by
 simp only [IntKind.wrap, IntKind.bits, IntKind.signed, Bool.true_and, decide_eq_true_eq, ge_iff_le]
 split <;> omega
theorem wrap8 {n : Int} (h1 : 0 ≤ n) (h2 : n < 256) : IntKind.u8.wrap n = n := by
 simp only [IntKind.wrap, IntKind.bits, IntKind.signed, Bool.false_and, Bool.false_eq_true, if_false]
 omega
theorem wrap32 {n : Int} (h1 : 0 ≤ n) (h2 : n < 4294967296) : IntKind.u32.wrap n = n := by
 simp only [IntKind.wrap, IntKind.bits, IntKind.signed, Bool.false_and, Bool.false_eq_true, if_false]
 omega
end
attribute [simp] seqQ_n seqQ_r seqQ_e blockQ_n blockQ_r blockQ_e OnV_some kZI jZp OnB_bool OnG_bool OnG_non rSkip rRet rExit rRegion rSeq rCond rBlock rNil rOp rGuard
attribute [simp] eo_resv eo_allocD eo_inil eo_prim eo_rngs eo_nxt eo_call eo_mov eo_pick eo_alloc eo_box eo_build kZ0 eo_load eo_store eo_bin eo_eqc eo_eqn eo_un eo_conv eo_field eo_faddr eo_iaddr kZ1 eo_idxS eo_idxA eo_slice eo_ext eo_mki eo_mkf eo_mkm eo_mks eo_look eo_mapup eo_mapent eo_entst eo_len eo_mx eo_mn eo_app eo_copy eo_del kZ2 kZ3 eo_clr eo_ins eo_atadd eo_atst eo_atld eo_onceIn xZW
attribute [simp] okCells_one xZg cellsAt_iptr faddr_ptr faddr_iptr vZY len_str bin_add bin_sub bin_mul bin_eql bin_neq bin_lss bin_leq bin_gtr bin_geq bin_seql bin_sneq un_not kZX eget_set_eq
attribute [simp] Od.ev putV evs takeMarks evRes pack qZ4 qZW fS_eq
def nz : V → V
 | .nils => .arr []
 | .nile => .arr []
 | x => x
def scalN : V → Bool
 | .nils => true
 | .nile => true
 | x => scal x
theorem fz_nz {d : Nat} {h : Heap} {x : V} (hx : scalN x = true) : fz (d + 1) h x = some (nz x, h) := by
 cases x <;> simp [scalN, scal] at hx <;> simp [fz, nz]
theorem jZH {f : Heap → V → Option (V × Heap)} {g : V → V} {h : Heap} : ∀ {l : List V}, (∀ x ∈ l, f h x = some (g x, h)) → mapH f h l = some (l.map g, h)
 | [], _ => rfl
 | x :: l, hh => by
  have ih := jZH (f := f) (g := g) (h := h) (l := l) (fun y hy => hh y (by simp [hy]))
  simp only [mapH, hh x (by simp), ih, List.map_cons]
def flatN : V → Bool
 | .agg cs => cs.all scalN
 | x => scalN x
def nz1 : V → V
 | .agg cs => .agg (cs.map nz)
 | x => nz x
theorem fz_flatN {d : Nat} {h : Heap} {x : V} (hx : flatN x = true) : fz (d + 2) h x = some (nz1 x, h) := by
 cases x <;> simp only [flatN] at hx
 case agg cs =>
  have := jZH (f := fz (d + 1)) (g := nz) (h := h) (l := cs) fun y hy => fz_nz (List.all_eq_true.1 hx y hy)
  show (mapH (fz (d + 1)) h cs).map (fun p => (V.agg p.1, p.2)) = _
  rw [this]
  rfl
 all_goals exact fz_nz hx
def flatN2 : V → Bool
 | .tup cs => cs.all flatN
 | x => flatN x
def nz2 : V → V
 | .tup cs => .tup (cs.map nz1)
 | x => nz1 x
theorem vZe {h : Heap} {x : V} (hx : flatN2 x = true) : fz fzDepth h x = some (nz2 x, h) := by
 cases x <;> simp only [flatN2] at hx
 case tup cs =>
  have := jZH (f := fz 63) (g := nz1) (h := h) (l := cs) fun y hy => fz_flatN (d := 61) (List.all_eq_true.1 hx y hy)
  show (mapH (fz 63) h cs).map (fun p => (V.tup p.1, p.2)) = _
  rw [this]
  rfl
 all_goals exact fz_flatN (d := 62) hx
theorem zZ4 {Φ : Nat → Option Cf} {f : FuncId} {cf : Cf} (hf : Φ f = some cf) (hp : cf.pure = true) {args : List V} {h h2 : Heap} {r : V} (ha : args.all flatN2 = true)
  (hb : evBodyW (callW Φ) cf (args.map nz2) [] = some (r, h2)) (hr : flatN2 r = true) : callW Φ (.fn (.func f) [] []) args h = some (nz2 r, h) := by
 refine jZW hf hp (h1 := h) (as := args.map nz2) ?_ hb (vZe hr)
 simp only [List.nil_append, List.append_nil]
 exact jZH fun x hx => vZe (List.all_eq_true.1 ha x hx)
theorem fz_sl {d : Nat} {h : Heap} {id ep off len z : Nat} {xs : List (List V)} {wr : Bool} (ho : h[id]? = some (.row z xs ep wr)) (hl : off + len ≤ xs.length)
  (hx : ∀ e ∈ xs, e.all scal = true) : fz (d + 2) h (.sl id ep off len) = some (.arr ((xs.drop off).take len), h.set id (.row z xs ep false)) := by
 have h1 : ∀ (h : Heap) (e : List V), e.all scal = true → mapH (fz (d + 1)) h e = some (e, h) := fun h e he => wZu fun y hy => fz_scal (List.all_eq_true.1 he y hy)
 have h2 : ∀ (l : List (List V)) (h : Heap), (∀ e ∈ l, e.all scal = true) → mapH (mapH (fz (d + 1))) h l = some (l, h) := by
  intro l
  induction l with
  | nil => intro h _; rfl
  | cons e l ih => intro h hh; simp only [mapH, h1 h e (hh e (by simp)), ih h (fun y hy => hh y (by simp [hy]))]
 show (match h[id]? with
   | some (.row z xs cur _) =>
    if ep = cur ∧ off + len ≤ xs.length then
     (mapH (mapH (fz (d + 1))) (h.set id (.row z xs cur false)) ((xs.drop off).take len)).map fun (p : List (List V) × Heap) => (V.arr p.1, p.2)
    else none
   | _ => none) = _
 rw [ho]
 simp only [true_and, hl, if_true]
 rw [h2 _ _ (fun e he => hx e (List.mem_of_mem_drop (List.mem_of_mem_take he)))]
 rfl
theorem jZV {Φ : Nat → Option Cf} {f : FuncId} {cf : Cf} (hf : Φ f = some cf) (hp : cf.pure = true) {args as : List V} {h h1 h0 h0' : Heap} {r : V} (ha : as.all flat2 = true)
  (hm : mapH (fz fzDepth) h args = some (as, h1)) (hc : callW Φ (.fn (.func f) [] []) as h0 = some (r, h0')) : callW Φ (.fn (.func f) [] []) args h = some (r, h1) := by
 obtain ⟨n, hn⟩ := jZX hc
 cases n with
 | zero => simp [evCall] at hn
 | succ n =>
  refine jZx (n := n + 1) ?_
  have hsame : mapH (fz fzDepth) h0 as = some (as, h0) := wZu fun x hx => fz_flat2 (List.all_eq_true.1 ha x hx)
  simp only [evCall, hf, hp, if_true, List.nil_append, List.append_nil, hsame, hm] at hn ⊢
  split at hn
  ·cases hn
  ·rename_i r2 h2 hb
   simp only [Option.map_eq_some_iff, Prod.mk.injEq] at hn ⊢
   obtain ⟨p, h3, h4, _⟩ := hn
   exact ⟨p, h3, h4, trivial⟩
theorem fresh_sl (h : Heap) (o : Ob) : (h ++ [o])[h.length]? = some o := by simp
inductive It where
 | c (x : Cc)
 | o (l : List Cp)
 | b (id : Nat)
mutual
def WK (call : CallF) (rnd : Option Nat) (Q : Ex → St → Prop) : List It → St → Prop
 | [], s => Q .normal s
 | .c x :: k, s => WC call rnd x s fun e s' =>
  match e with
  | .normal => WK call rnd Q k s'
  | .exit i => WX call rnd Q i k s'
  | .ret => Q .ret s'
 | .o l :: k, s => WO call l s (WK call rnd Q k)
 | .b _ :: k, s => WK call rnd Q k s
def WX (call : CallF) (rnd : Option Nat) (Q : Ex → St → Prop) (i : Nat) : List It → St → Prop
 | [], s => Q (.exit i) s
 | .b j :: k, s => if i = j then WK call rnd Q k s else WX call rnd Q i k s
 | .c _ :: k, s => WX call rnd Q i k s
 | .o _ :: k, s => WX call rnd Q i k s
end
section
variable {call : CallF} {rnd : Option Nat} {Q : Ex → St → Prop} {s : St} {k : List It}
theorem wZ2 {x : Cc} (h : WK call rnd Q [.c x] s) : WC call rnd x s Q := by
 simp only [WK] at h
 refine WC.mono h fun e s' hq => ?_
 cases e with
 | normal => exact hq
 | exit i => simpa [WX] using hq
 | ret => exact hq
theorem kNil : WK call rnd Q [] s = Q .normal s := by simp only [WK]
theorem kMark {id : Nat} : WK call rnd Q (.b id :: k) s = WK call rnd Q k s := by simp only [WK]
theorem kSkip : WK call rnd Q (.c .skip :: k) s = WK call rnd Q k s := by simp only [WK, rSkip]
theorem kRet : WK call rnd Q (.c .ret :: k) s = Q .ret s := by simp only [WK, rRet]
theorem kExit {i : Nat} : WK call rnd Q (.c (.exit i) :: k) s = WX call rnd Q i k s := by simp only [WK, rExit]
theorem kRegion {l : List Cp} : WK call rnd Q (.c (.region l) :: k) s = WK call rnd Q (.o l :: k) s := by simp only [WK, rRegion]
theorem kDraw {Q : Ex → St → Prop} {ops : List Cp} {af : List (List Nat)} {fl : List Nat} {l : List Nat} (h : order ops.length af fl ops.length (List.replicate ops.length false) = some l) :
  WK call none Q (.c (.draw ops af fl) :: k) s = WK call none Q (.o (l.filterMap (ops[·]?)) :: k) s := by simp only [WK, rDraw h rfl]
theorem kDraws {Q : Ex → St → Prop} {ops : List Cp} {af : List (List Nat)} {fl : List Nat} {l : List Nat} {ls : List (List Nat)} (h : orders ops.length af fl ops.length (List.replicate ops.length false) = some (l :: ls))
  (hw : WO call (l.filterMap (ops[·]?)) s (fun r => (∀ l' ∈ ls, WO call (l'.filterMap (ops[·]?)) s (fun r' => r' = r)) ∧ WK call none Q k r)) : WK call none Q (.c (.draw ops af fl) :: k) s := by
 obtain ⟨r, h1, h2, h3⟩ := hw
 have he : evAny call ops af fl ops.length (List.replicate ops.length false) s = some r := xZK _ _ _ s h (fun l' hl' => by
  rcases List.mem_cons.1 hl' with rfl | hl'
  ·exact h1
  ·obtain ⟨r', q1, rfl⟩ := h2 l' hl'
   exact q1)
 simp only [WK]
 exact ⟨.normal, r, by simp [evCodeW, he], h3⟩
theorem kSeq {a b : Cc} : WK call rnd Q (.c (.seq a b) :: k) s = WK call rnd Q (.c a :: .c b :: k) s := by
 simp only [WK, rSeq]
 congr 1
 funext e s'
 cases e <;> simp only [seqQ, WX]
theorem kBlock {id : Nat} {x : Cc} : WK call rnd Q (.c (.block id x) :: k) s = WK call rnd Q (.c x :: .b id :: k) s := by
 simp only [WK, rBlock]
 congr 1
 funext e s'
 cases e with
 | normal => simp only [blockQ, WK]
 | exit i =>
  simp only [blockQ, WX]
  by_cases hi : i = id
  ·simp only [hi, if_true]
  ·simp only [hi, if_false]
 | ret => simp only [blockQ]
theorem kCond {c : Od} {a b : Cc} : WK call rnd Q (.c (.cond c a b) :: k) s = (match c.ev s.env with
  | .bool true => WK call rnd Q (.c a :: k) s
  | .bool false => WK call rnd Q (.c b :: k) s
  | _ => False) := by
 simp only [WK, rCond]
 cases h : c.ev s.env <;> simp only [OnB]
 rename_i t
 cases t <;> simp only [kZI, jZp]
theorem kOps : WK call rnd Q (.o [] :: k) s = WK call rnd Q k s := by simp only [WK, rNil]
theorem kOp {d : Option Nat} {op : Cop} {r : List Cp} : WK call rnd Q (.o (⟨d, op, none⟩ :: r) :: k) s = (match evOpC call s.env s.heap op with
  | some (v, h') => WK call rnd Q (.o r :: k) { s with env := putV s.env d v, heap := h' }
  | none => False) := by
 simp only [WK, rOp]
 cases evOpC call s.env s.heap op <;> rfl
theorem kGuard {d : Option Nat} {op : Cop} {j : Nat} {w : Bool} {r : List Cp} : WK call rnd Q (.o (⟨d, op, some (j, w)⟩ :: r) :: k) s = (match eget s.env j with
  | .bool b => (match b == w with
   | true => WK call rnd Q (.o (⟨d, op, none⟩ :: r) :: k) s
   | false => WK call rnd Q (.o r :: k) { s with env := putV s.env d V.non })
  | .tup [] => WK call rnd Q (.o r :: k) { s with env := putV s.env d V.non }
  | _ => False) := by
 simp only [WK, rGuard]
 generalize eget s.env j = x
 generalize WO call (⟨d, op, none⟩ :: r) s (WK call rnd Q k) = p
 generalize WO call r { s with env := putV s.env d V.non } (WK call rnd Q k) = q
 cases x
 case bool b =>
  show IfB (b == w) p q = _
  cases hbw : b == w <;> simp only [kZI, jZp, hbw]
 case tup cs => cases cs <;> rfl
 all_goals rfl
theorem xNil {i : Nat} : WX call rnd Q i [] s = Q (.exit i) s := by simp only [WX]
theorem xMark {i j : Nat} : WX call rnd Q i (.b j :: k) s = (if i = j then WK call rnd Q k s else WX call rnd Q i k s) := by simp only [WX]
theorem xCode {i : Nat} {x : Cc} : WX call rnd Q i (.c x :: k) s = WX call rnd Q i k s := by simp only [WX]
theorem xOps {i : Nat} {l : List Cp} : WX call rnd Q i (.o l :: k) s = WX call rnd Q i k s := by simp only [WX]
theorem kLoop {x : Cc} (I : Nat → St → Prop) (n : Nat) (h0 : I n s) (hr : ∀ m s, I m s → WK call rnd (fun e s' => match e with | .normal => ∃ j, j < m ∧ I j s' | .exit i => WX call rnd Q i k s' | .ret => Q .ret s') [.c x] s) :
  WK call rnd Q (.c (.loop x) :: k) s := by
 simp only [WK]
 refine WC_loop I h0 fun m s hI => ?_
 refine WC.mono (wZ2 (hr m s hI)) fun e s' hq => ?_
 cases e with
 | normal => exact hq
 | exit i => exact hq
 | ret => exact hq
end
def FinQ (rs : List Rv) (r : V × Heap) (e : Ex) (s : St) : Prop := (e = .normal ∨ e = .ret) ∧ ∃ h1 vs, takeMarks s.heap s.marks = some h1 ∧ evRes s.env h1 rs = some vs ∧ r = (pack vs, h1)
def FinV (rs : List Rv) (r : V) (e : Ex) (s : St) : Prop := (e = .normal ∨ e = .ret) ∧ ∃ h1 vs, takeMarks s.heap s.marks = some h1 ∧ evRes s.env h1 rs = some vs ∧ r = pack vs
theorem qZ3 {call : CallF} {cf : Cf} {args : List V} {h : Heap} {r : V} (hn : args.length ≤ cf.ntmps)
  (hw : ∀ env : List V, env.length = cf.ntmps → (∀ i, i < args.length → eget env i = eget args i) → WK call none (FinV cf.results r) [.c cf.body] { env := env, marks := [], heap := h }) :
  ∃ h', evBodyW call cf args h = some (r, h') := by
 have he := hw (args ++ List.replicate (cf.ntmps - args.length) V.non) (by simp; omega) (fun i hi => by simp [eget, List.getD_eq_getElem?_getD, List.getElem?_append_left hi])
 obtain ⟨e, s', h1, h2, ha, vs, h3, h4, rfl⟩ := wZ2 he
 exact ⟨ha, body_of hn ⟨e, s', h1, h2, ha, vs, h3, h4, rfl⟩⟩
attribute [simp] kNil kMark kSkip kRet kExit kRegion kSeq kBlock kCond kOps kOp kGuard xNil xMark xCode xOps FinV
end Go.Ev
