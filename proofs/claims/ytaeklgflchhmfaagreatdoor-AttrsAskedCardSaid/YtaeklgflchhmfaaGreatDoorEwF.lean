/- Rules for running code on values that are not known. No conditions. -/
import Derived.Test.YtaeklgflchhmfaaGreatDoorEwE
set_option maxHeartbeats 16000000
set_option maxRecDepth 100000
set_option linter.unusedVariables false
set_option linter.unusedSimpArgs false
set_option linter.unusedSectionVars false
namespace Go.Ev
theorem kZX {env : List V} {i j : Nat} {v : V} (h : i ≠ j) : eget (env.set i v) j = eget env j := by
 simp [eget, List.getD_eq_getElem?_getD, List.getElem?_set_ne h]
theorem eget_set_eq {env : List V} {i : Nat} {v : V} (h : i < env.length) : eget (env.set i v) i = v := by
 simp [eget, List.getD_eq_getElem?_getD, List.getElem?_set_self h]
def WC (call : CallF) (rnd : Option Nat) (c : Cc) (s : St) (Q : Ex → St → Prop) : Prop := ∃ e s', evCodeW call rnd c s = some (e, s') ∧ Q e s'
def WO (call : CallF) (ops : List Cp) (s : St) (Q : St → Prop) : Prop := ∃ s', evOps call ops s = some s' ∧ Q s'
def seqQ (q : St → Prop) (Q : Ex → St → Prop) : Ex → St → Prop
 | .normal, s => q s
 | e, s => Q e s
def blockQ (id : Nat) (Q : Ex → St → Prop) : Ex → St → Prop
 | .exit i, s => Q (if i = id then .normal else .exit i) s
 | e, s => Q e s
section
variable {call : CallF} {rnd : Option Nat} {Q : Ex → St → Prop} {s : St}
theorem WC.mono {c : Cc} {Q' : Ex → St → Prop} (h : WC call rnd c s Q) (hq : ∀ e s, Q e s → Q' e s) : WC call rnd c s Q' :=
 let ⟨e, s', a, b⟩ := h; ⟨e, s', a, hq _ _ b⟩
theorem WC_skip (h : Q .normal s) : WC call rnd .skip s Q := ⟨_, _, rfl, h⟩
theorem WC_ret (h : Q .ret s) : WC call rnd .ret s Q := ⟨_, _, rfl, h⟩
theorem WC_exit {id : Nat} (h : Q (.exit id) s) : WC call rnd (.exit id) s Q := ⟨_, _, rfl, h⟩
theorem WC_region {ops : List Cp} (h : WO call ops s (Q .normal)) : WC call rnd (.region ops) s Q := by
 obtain ⟨s', a, b⟩ := h
 exact ⟨.normal, s', by simp [evCodeW, a], b⟩
theorem WC_seq {a b : Cc} (h : WC call rnd a s (seqQ (fun s => WC call rnd b s Q) Q)) : WC call rnd (.seq a b) s Q := by
 obtain ⟨e, s1, h1, h2⟩ := h
 cases e with
 | normal =>
  obtain ⟨e, s2, h3, h4⟩ := h2
  exact ⟨e, s2, by simp [evCodeW, h1, h3], h4⟩
 | exit i => exact ⟨.exit i, s1, by simp [evCodeW, h1], h2⟩
 | ret => exact ⟨.ret, s1, by simp [evCodeW, h1], h2⟩
theorem WC_cond {c : Od} {a b : Cc} {t : Bool} (hc : c.ev s.env = .bool t) (ha : t = true → WC call rnd a s Q) (hb : t = false → WC call rnd b s Q) : WC call rnd (.cond c a b) s Q := by
 cases t with
 | true =>
  obtain ⟨e, s', h1, h2⟩ := ha rfl
  exact ⟨e, s', by simp [evCodeW, hc, h1], h2⟩
 | false =>
  obtain ⟨e, s', h1, h2⟩ := hb rfl
  exact ⟨e, s', by simp [evCodeW, hc, h1], h2⟩
theorem WC_block {id : Nat} {c : Cc} (h : WC call rnd c s (blockQ id Q)) : WC call rnd (.block id c) s Q := by
 obtain ⟨e, s', h1, h2⟩ := h
 cases e with
 | normal => exact ⟨.normal, s', by simp [evCodeW, h1], h2⟩
 | exit i => exact ⟨if i = id then .normal else .exit i, s', by simp [evCodeW, h1], h2⟩
 | ret => exact ⟨.ret, s', by simp [evCodeW, h1], h2⟩
theorem WC_loop {c : Cc} (I : Nat → St → Prop) {n : Nat} (h0 : I n s) (hr : ∀ m s, I m s → WC call rnd c s (seqQ (fun s' => ∃ k, k < m ∧ I k s') Q)) : WC call rnd (.loop c) s Q := by
 revert s
 induction n using Nat.strongRecOn with
 | _ n ih =>
  intro s h0
  obtain ⟨e, s1, h1, h2⟩ := hr n s h0
  cases e with
  | normal =>
   obtain ⟨k, hk, hI⟩ := h2
   obtain ⟨e, s2, h3, h4⟩ := ih k hk hI
   exact ⟨e, s2, by simp only [evCodeW] at h3 ⊢; rw [kZe, h1]; exact h3, h4⟩
  | exit i => exact ⟨.exit i, s1, by simp only [evCodeW]; rw [kZe, h1], h2⟩
  | ret => exact ⟨.ret, s1, by simp only [evCodeW]; rw [kZe, h1], h2⟩
theorem WO_nil {q : St → Prop} (h : q s) : WO call [] s q := ⟨s, rfl, h⟩
theorem WO_op {q : St → Prop} {d : Option Nat} {op : Cop} {r : List Cp} {v : V} {h' : Heap} (hn : ∀ f args, op ≠ .call f args) (he : evOp s.env s.heap op = some (v, h'))
  (h : WO call r { s with env := putV s.env d v, heap := h' } q) : WO call (⟨d, op, none⟩ :: r) s q := by
 obtain ⟨s', h1, h2⟩ := h
 refine ⟨s', ?_, h2⟩
 simp only [evOps]
 have : evCp call ⟨d, op, none⟩ s = some { s with env := putV s.env d v, heap := h' } := by
  unfold evCp
  simp only [wanted]
  cases op <;> first | exact absurd rfl (hn _ _) | (simp only [he, fS_eq])
 rw [this]
 exact h1
theorem WO_call {q : St → Prop} {d : Option Nat} {f : Od} {args : List Od} {r : List Cp} {v : V} {h' : Heap} (he : call (f.ev s.env) (evs s.env args) s.heap = some (v, h'))
  (h : WO call r { s with env := putV s.env d v, heap := h' } q) : WO call (⟨d, .call f args, none⟩ :: r) s q := by
 obtain ⟨s', h1, h2⟩ := h
 refine ⟨s', ?_, h2⟩
 simp only [evOps]
 have : evCp call ⟨d, .call f args, none⟩ s = some { s with env := putV s.env d v, heap := h' } := by
  unfold evCp
  simp only [wanted, fS_eq, he]
 rw [this]
 exact h1
theorem WO_yes {q : St → Prop} {d : Option Nat} {op : Cop} {g : Nat × Bool} {r : List Cp} (hw : eget s.env g.1 = .bool g.2) (h : WO call (⟨d, op, none⟩ :: r) s q) : WO call (⟨d, op, some g⟩ :: r) s q := by
 obtain ⟨s', h1, h2⟩ := h
 refine ⟨s', ?_, h2⟩
 rw [← h1]
 simp only [evOps]
 have : evCp call ⟨d, op, some g⟩ s = evCp call ⟨d, op, none⟩ s := by
  unfold evCp
  obtain ⟨j, w⟩ := g
  simp only at hw
  simp [wanted, hw]
 rw [this]
theorem WO_no {q : St → Prop} {d : Option Nat} {op : Cop} {g : Nat × Bool} {r : List Cp} (hw : eget s.env g.1 = .bool (!g.2) ∨ eget s.env g.1 = V.non) (h : WO call r { s with env := putV s.env d V.non } q) : WO call (⟨d, op, some g⟩ :: r) s q := by
 obtain ⟨s', h1, h2⟩ := h
 refine ⟨s', ?_, h2⟩
 simp only [evOps]
 have : evCp call ⟨d, op, some g⟩ s = some { s with env := putV s.env d V.non } := by
  unfold evCp
  obtain ⟨j, w⟩ := g
  simp only at hw
  rcases hw with hw | hw <;> cases w <;> simp [wanted, hw, V.non]
 rw [this]
 exact h1
theorem body_of {cf : Cf} {args : List V} {h : Heap} {r : V × Heap} (hnt : args.length ≤ cf.ntmps) (hw : WC call none cf.body { env := args ++ List.replicate (cf.ntmps - args.length) V.non, marks := [], heap := h }
  (fun e s => (e = .normal ∨ e = .ret) ∧ ∃ h1 vs, takeMarks s.heap s.marks = some h1 ∧ evRes s.env h1 cf.results = some vs ∧ r = (pack vs, h1))) : evBodyW call cf args h = some r := by
 obtain ⟨e, s', h1, he, h2, vs, h3, h4, rfl⟩ := hw
 unfold evBodyW
 rw [if_neg (by omega)]
 rw [h1]
 rcases he with rfl | rfl
 ·simp only [h3, h4]
  match vs with
  | [] => rfl
  | [v] => rfl
  | a :: b :: c => rfl
 ·simp only [h3, h4]
  match vs with
  | [] => rfl
  | [v] => rfl
  | a :: b :: c => rfl
end
/-! ### Trees: values with none of the heap -/
def flat : V → Bool
 | .agg cs => cs.all scal
 | x => scal x
def flat2 : V → Bool
 | .tup cs => cs.all flat
 | x => flat x
theorem wZu {f : Heap → V → Option (V × Heap)} {h : Heap} : ∀ {l : List V}, (∀ x ∈ l, f h x = some (x, h)) → mapH f h l = some (l, h)
 | [], _ => rfl
 | x :: l, hh => by
  have ih := wZu (l := l) (fun y hy => hh y (by simp [hy]))
  simp only [mapH, hh x (by simp), ih]
theorem fz_scal {d : Nat} {h : Heap} {x : V} (hx : scal x = true) : fz (d + 1) h x = some (x, h) := by
 cases x <;> simp [scal] at hx <;> simp [fz]
theorem fz_flat {d : Nat} {h : Heap} {x : V} (hx : flat x = true) : fz (d + 2) h x = some (x, h) := by
 cases x <;> simp only [flat] at hx
 case agg cs =>
  have := wZu (f := fz (d + 1)) (h := h) (l := cs) fun y hy => fz_scal (List.all_eq_true.1 hx y hy)
  show (mapH (fz (d + 1)) h cs).map (fun p => (V.agg p.1, p.2)) = _
  rw [this]
  rfl
 all_goals exact fz_scal hx
theorem fz_flat2 {h : Heap} {x : V} (hx : flat2 x = true) : fz fzDepth h x = some (x, h) := by
 cases x <;> simp only [flat2] at hx
 case tup cs =>
  have := wZu (f := fz 63) (h := h) (l := cs) fun y hy => fz_flat (d := 61) (List.all_eq_true.1 hx y hy)
  show (mapH (fz 63) h cs).map (fun p => (V.tup p.1, p.2)) = _
  rw [this]
  rfl
 all_goals exact fz_flat (d := 62) hx
theorem callW_tree {Φ : Nat → Option Cf} {f : FuncId} {cf : Cf} (hf : Φ f = some cf) (hp : cf.pure = true) {args : List V} {h h2 h3 : Heap} {r r' : V} (ha : args.all flat2 = true)
  (hb : evBodyW (callW Φ) cf args [] = some (r, h2)) (hz : fz fzDepth h2 r = some (r', h3)) : callW Φ (.fn (.func f) [] []) args h = some (r', h) := by
 refine jZW hf hp (h1 := h) (as := args) ?_ hb hz
 simp only [List.nil_append, List.append_nil]
 exact wZu fun x hx => fz_flat2 (List.all_eq_true.1 ha x hx)
end Go.Ev
