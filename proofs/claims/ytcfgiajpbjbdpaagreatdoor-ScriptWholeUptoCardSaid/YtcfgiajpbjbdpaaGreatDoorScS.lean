/- Commands and their lines, in plain words. Commands as lines, there and back, in plain words. Commands as lines, there and back: lists, fields, whole. No conditions. -/
import Derived.Test.YtcfgiajpbjbdpaaGreatDoorEwR
set_option maxHeartbeats 16000000
set_option maxRecDepth 100000
set_option linter.unusedVariables false
set_option linter.unusedSimpArgs false
set_option linter.unusedSectionVars false
namespace Go.Proofs.Sc
abbrev Bs := List UInt8
structure Cmd where
 op : Nat := 0
 a : Int := 0
 b : Int := 0
 c : Int := 0
 n : Int := 0
 m : Int := 0
 s : Bs := []
 t : Bs := []
 data : List Nat := []
 list : List Int := []
 names : List Bs := []
 yes : Bool := false
 deriving DecidableEq
def W : List Bs := [[], [101, 108, 101, 109, 101, 110, 116], [116, 101, 120, 116], [99, 111, 109, 109, 101, 110, 116], [102, 114, 97, 103, 109, 101, 110, 116], [99, 108, 111, 110, 101], [97, 116, 116, 97, 99, 104], [105, 110, 115, 101, 114, 116], [114, 101, 112, 108, 97, 99, 101], [114, 101, 109, 111, 118, 101], [110, 111, 114, 109, 97, 108, 105, 122, 101], [99, 111, 110, 116, 101, 110, 116], [97, 115, 115, 105, 103, 110], [100, 97, 116, 97], [115, 112, 108, 105, 116], [115, 101, 116, 97, 116, 116, 114], [100, 101, 108, 97, 116, 116, 114], [116, 111, 103, 103, 108, 101], [114, 97, 110, 103, 101], [101, 120, 116, 114, 97, 99, 116], [101, 114, 97, 115, 101], [105, 116, 101, 114, 97, 116, 101], [115, 116, 101, 112], [111, 98, 115, 101, 114, 118, 101, 114], [111, 98, 115, 101, 114, 118, 101], [116, 97, 107, 101], [100, 105, 115, 99, 111, 110, 110, 101, 99, 116], [108, 105, 115, 116, 101, 110], [117, 110, 108, 105, 115, 116, 101, 110], [100, 105, 115, 112, 97, 116, 99, 104], [101, 102, 102, 101, 99, 116], [115, 105, 103, 110, 97, 108], [97, 98, 111, 114, 116], [97, 110, 121], [100, 101, 102, 105, 110, 101], [116, 97, 115, 107], [109, 105, 99, 114, 111], [116, 105, 109, 101, 114], [99, 108, 101, 97, 114], [116, 105, 99, 107], [116, 117, 114, 110], [97, 115, 107], [103, 101, 116], [102, 105, 110, 100], [100, 117, 109, 112]]
def F : List Bs := [[], [83, 84], [68], [68], [], [65, 89], [65, 78, 89], [65, 66, 67], [65, 66, 67], [65, 66], [65], [65, 68], [65, 76], [65, 78, 77, 68], [65, 78], [65, 83, 84], [65, 83], [65, 83, 78], [65, 78, 66, 77], [65], [65], [65, 78], [65, 89], [78], [65, 66, 78], [65], [65], [65, 83, 78, 77, 66], [65, 83, 78, 77], [65, 83, 78], [78], [], [65, 78], [76], [83, 84, 76, 75], [78, 77], [77], [78, 77], [65], [78], [78], [65, 78], [65, 83], [65, 83], [65]]
def word (op : Nat) : Bs := (W[op]?).getD []
def flds (op : Nat) : Bs := (F[op]?).getD []
def known (op : Nat) : Bool := 1 ≤ op && op < 45
def find (w : Bs) : Nat := match (W.drop 1).findIdx? (· == w) with
 | some i => i + 1
 | none => 0
def put (r : UInt8) (c d : Cmd) : Cmd :=
 if r = 65 then { d with a := c.a } else if r = 66 then { d with b := c.b } else if r = 67 then { d with c := c.c } else if r = 78 then { d with n := c.n }
 else if r = 77 then { d with m := c.m } else if r = 83 then { d with s := c.s } else if r = 84 then { d with t := c.t } else if r = 68 then { d with data := c.data }
 else if r = 76 then { d with list := c.list } else if r = 75 then { d with names := c.names } else if r = 89 then { d with yes := c.yes } else d
def puts (l : Bs) (c d : Cmd) : Cmd := l.foldl (fun d r => put r c d) d
def plain (c : Cmd) : Cmd := puts (flds c.op) c { op := c.op }
/-! ### Texts -/
def dec (n : Nat) : Bs := if n < 10 then [UInt8.ofNat (48 + n)] else dec (n / 10) ++ [UInt8.ofNat (48 + n % 10)]
decreasing_by omega
def itoa (n : Int) : Bs := if n < 0 then 45 :: dec n.natAbs else dec n.natAbs
def shown (u : Nat) : Bool := 32 ≤ u && u ≤ 126
def bare (u : Nat) : Bool := shown u && u != 34 && u != 92
def hx (d : Nat) : UInt8 := if d < 10 then UInt8.ofNat (48 + d) else UInt8.ofNat (87 + d)
def hexs : Nat → Nat → Bs
 | 0, _ => []
 | k + 1, u => hx (u / 16 ^ k % 16) :: hexs k u
def q1 (k : Nat) (y : UInt8) (u : Nat) : Bs :=
 if bare u then [UInt8.ofNat u] else if shown u then [92, UInt8.ofNat u] else 92 :: y :: hexs k u
def quoteU (k : Nat) (y : UInt8) (l : List Nat) : Bs := 34 :: (l.flatMap (q1 k y) ++ [34])
def quoteB (s : Bs) : Bs := quoteU 2 120 (s.map (·.toNat))
def jn : List Bs → Bs
 | [] => []
 | x :: r => match r with
  | [] => x
  | _ => x ++ 32 :: jn r
def yesB (b : Bool) : Bs := if b then [121, 101, 115] else [110, 111]
def wf (r : UInt8) (c : Cmd) : Bs :=
 if r = 65 then itoa c.a else if r = 66 then itoa c.b else if r = 67 then itoa c.c else if r = 78 then itoa c.n
 else if r = 77 then itoa c.m else if r = 83 then quoteB c.s else if r = 84 then quoteB c.t else if r = 68 then quoteU 4 117 c.data
 else if r = 76 then 91 :: (jn (c.list.map itoa) ++ [93]) else if r = 75 then 91 :: (jn (c.names.map quoteB) ++ [93]) else if r = 89 then yesB c.yes else []
def tail (l : Bs) (c : Cmd) : Bs := l.flatMap fun r => 32 :: wf r c
def lineB (c : Cmd) : Bs := word c.op ++ tail (flds c.op) c
def maxS : Nat := 1048576
def lineR (c : Cmd) : Bs × Int := if known c.op then (if (lineB c).length > maxS then ([], 4) else (lineB c, 0)) else ([], 23)
/-! ### Reading -/
def dig (b : UInt8) : Bool := 48 ≤ b.toNat && b.toNat ≤ 57
def numPre : Bs → Bs
 | [] => []
 | b :: r => if b = 45 then 45 :: r.takeWhile dig else (b :: r).takeWhile dig
def valD (l : Bs) : Nat := l.foldl (fun n b => 10 * n + (b.toNat - 48)) 0
def atoi (t : Bs) : Option Int :=
 match t with
 | [] => none
 | b :: r => if b = 45 then (if r = [] then none else if valD r ≤ 9223372036854775808 then some (-(valD r : Int)) else none)
  else if valD t ≤ 9223372036854775807 then some (valD t) else none
def number (s : Bs) : Option (Int × Bs) :=
 match atoi (numPre s) with
 | none => none
 | some n => if itoa n = numPre s then some (n, s.drop (numPre s).length) else none
def hd (b : UInt8) : Option Nat := if 48 ≤ b.toNat ∧ b.toNat ≤ 57 then some (b.toNat - 48) else if 97 ≤ b.toNat ∧ b.toNat ≤ 102 then some (b.toNat - 87) else none
def hexv : Nat → Bs → Nat → Option Nat
 | 0, _, u => some u
 | _ + 1, [], _ => none
 | k + 1, b :: r, u => match hd b with
  | none => none
  | some d => hexv k r (16 * u + d)
def unq (k : Nat) (y : UInt8) (s : Bs) (out : List Nat) : Option (List Nat × Bs) :=
 match s with
 | [] => none
 | b :: r =>
  if b = 34 then some (out, r)
  else if bare b.toNat then unq k y r (out ++ [b.toNat])
  else if b ≠ 92 then none
  else match r with
   | [] => none
   | e :: r2 =>
    if e = 34 ∨ e = 92 then unq k y r2 (out ++ [e.toNat])
    else if e ≠ y then none
    else match hexv k r2 0 with
     | none => none
     | some u => if shown u then none else unq k y (r2.drop k) (out ++ [u])
termination_by s.length
decreasing_by all_goals simp <;> omega
def unquote (k : Nat) (y : UInt8) (s : Bs) : Option (List Nat × Bs) :=
 match s with
 | [] => none
 | b :: r => if b = 34 then unq k y r [] else none
def narrow (l : List Nat) : Bs := l.map UInt8.ofNat
def textR (s : Bs) : Option (Bs × Bs) := (unquote 2 120 s).map fun p => (narrow p.1, p.2)
def itemsL {α : Type} (one : Bs → Option (α × Bs)) (s : Bs) (out : List α) : Option (List α × Bs) :=
 match one s with
 | none => none
 | some (x, r) => match r with
  | [] => none
  | e :: r' => if e = 93 then some (out ++ [x], r') else if e = 32 then (if r'.length < s.length then itemsL one r' (out ++ [x]) else none) else none
termination_by s.length
def items {α : Type} (one : Bs → Option (α × Bs)) (s : Bs) (out : List α) : Option (List α × Bs) :=
 match s with
 | [] => none
 | b :: r => if b = 91 then (match r with
   | [] => itemsL one [] out
   | e :: r' => if e = 93 then some (out, r') else itemsL one r out)
  else none
def yesR (s : Bs) : Option (Bool × Bs) := if s.take 3 = [121, 101, 115] then some (true, s.drop 3) else if s.take 2 = [110, 111] then some (false, s.drop 2) else none
def rd (r : UInt8) (c : Cmd) (s : Bs) : Option (Cmd × Bs) :=
 if r = 65 then (number s).map fun p => ({ c with a := p.1 }, p.2) else if r = 66 then (number s).map fun p => ({ c with b := p.1 }, p.2)
 else if r = 67 then (number s).map fun p => ({ c with c := p.1 }, p.2) else if r = 78 then (number s).map fun p => ({ c with n := p.1 }, p.2)
 else if r = 77 then (number s).map fun p => ({ c with m := p.1 }, p.2) else if r = 83 then (textR s).map fun p => ({ c with s := p.1 }, p.2)
 else if r = 84 then (textR s).map fun p => ({ c with t := p.1 }, p.2) else if r = 68 then (unquote 4 117 s).map fun p => ({ c with data := p.1 }, p.2)
 else if r = 76 then (items number s []).map fun p => ({ c with list := p.1 }, p.2) else if r = 75 then (items textR s []).map fun p => ({ c with names := p.1 }, p.2)
 else if r = 89 then (yesR s).map fun p => ({ c with yes := p.1 }, p.2) else none
def cmdR : Bs → Cmd → Bs → Option (Cmd × Bs)
 | [], c, s => some (c, s)
 | r :: l, c, s => match s with
  | [] => none
  | e :: s' => if e = 32 then (match rd r c s' with
    | some (c', s'') => cmdR l c' s''
    | none => none)
   else none
def wordOf (s : Bs) : Bs := s.takeWhile (· != 32)
def command (s : Bs) : Option Cmd :=
 match find (wordOf s) with
 | 0 => none
 | op => match cmdR (flds op) { op := op } (s.drop (wordOf s).length) with
  | some (c, []) => some c
  | _ => none
/-! ### Fields -/
def keep (l : Bs) (c d : Cmd) : Cmd :=
 { op := d.op, a := if 65 ∈ l then c.a else d.a, b := if 66 ∈ l then c.b else d.b, c := if 67 ∈ l then c.c else d.c, n := if 78 ∈ l then c.n else d.n, m := if 77 ∈ l then c.m else d.m, s := if 83 ∈ l then c.s else d.s, t := if 84 ∈ l then c.t else d.t, data := if 68 ∈ l then c.data else d.data, list := if 76 ∈ l then c.list else d.list, names := if 75 ∈ l then c.names else d.names, yes := if 89 ∈ l then c.yes else d.yes }
theorem keep_nil (c d : Cmd) : keep [] c d = d := by cases d; simp [keep]
theorem keep_cons (r : UInt8) (l : Bs) (c d : Cmd) : keep (r :: l) c d = keep l c (put r c d) := by
 by_cases h65 : r = 65
 ·subst h65; simp [put, keep]
 by_cases h66 : r = 66
 ·subst h66; simp [put, keep]
 by_cases h67 : r = 67
 ·subst h67; simp [put, keep]
 by_cases h78 : r = 78
 ·subst h78; simp [put, keep]
 by_cases h77 : r = 77
 ·subst h77; simp [put, keep]
 by_cases h83 : r = 83
 ·subst h83; simp [put, keep]
 by_cases h84 : r = 84
 ·subst h84; simp [put, keep]
 by_cases h68 : r = 68
 ·subst h68; simp [put, keep]
 by_cases h76 : r = 76
 ·subst h76; simp [put, keep]
 by_cases h75 : r = 75
 ·subst h75; simp [put, keep]
 by_cases h89 : r = 89
 ·subst h89; simp [put, keep]
 simp [put, keep, h65, h66, h67, h78, h77, h83, h84, h68, h76, h75, h89, Ne.symm h65, Ne.symm h66, Ne.symm h67, Ne.symm h78, Ne.symm h77, Ne.symm h83, Ne.symm h84, Ne.symm h68, Ne.symm h76, Ne.symm h75, Ne.symm h89]
theorem kZl (c : Cmd) : ∀ (l : Bs) (d : Cmd), puts l c d = keep l c d
 | [], d => (keep_nil c d).symm
 | r :: l, d => by
  rw [keep_cons]
  exact kZl c l (put r c d)
theorem vZ0 (c : Cmd) : plain c = keep (flds c.op) c { op := c.op } := kZl c _ _
theorem jZM (c : Cmd) : (plain c).op = c.op := by rw [vZ0]; rfl
theorem zYaH (c : Cmd) : plain (plain c) = plain c := by
 rw [vZ0 (plain c), jZM, vZ0 c]
 simp only [keep, Cmd.mk.injEq, true_and]
 refine ⟨?_, ?_, ?_, ?_, ?_, ?_, ?_, ?_, ?_, ?_, ?_⟩ <;> split <;> rfl
theorem wf_keep {r : UInt8} {l : Bs} (h : r ∈ l) (c d : Cmd) : wf r (keep l c d) = wf r c := by
 by_cases h65 : r = 65
 ·subst h65; simp [wf, keep, h]
 by_cases h66 : r = 66
 ·subst h66; simp [wf, keep, h]
 by_cases h67 : r = 67
 ·subst h67; simp [wf, keep, h]
 by_cases h78 : r = 78
 ·subst h78; simp [wf, keep, h]
 by_cases h77 : r = 77
 ·subst h77; simp [wf, keep, h]
 by_cases h83 : r = 83
 ·subst h83; simp [wf, keep, h]
 by_cases h84 : r = 84
 ·subst h84; simp [wf, keep, h]
 by_cases h68 : r = 68
 ·subst h68; simp [wf, keep, h]
 by_cases h76 : r = 76
 ·subst h76; simp [wf, keep, h]
 by_cases h75 : r = 75
 ·subst h75; simp [wf, keep, h]
 by_cases h89 : r = 89
 ·subst h89; simp [wf, keep, h]
 simp [wf, h65, h66, h67, h78, h77, h83, h84, h68, h76, h75, h89]
theorem tail_eq {c d : Cmd} : ∀ {l : Bs}, (∀ r ∈ l, wf r c = wf r d) → tail l c = tail l d
 | [], _ => rfl
 | r :: l, h => by
  have ih := tail_eq (l := l) fun x hx => h x (by simp [hx])
  simp only [tail, List.flatMap_cons] at ih ⊢
  rw [h r (by simp), ih]
theorem zYap (c : Cmd) : lineB (plain c) = lineB c := by
 unfold lineB
 rw [jZM]
 congr 1
 refine tail_eq fun r hr => ?_
 rw [vZ0]
 exact wf_keep hr c _
theorem lineR_plain (c : Cmd) : lineR (plain c) = lineR c := by unfold lineR; rw [zYap, jZM]
/-! ### Words -/
theorem W_len : W.length = 45 := rfl
theorem zYay {op : Nat} : known op = true ↔ word op ≠ [] := by
 by_cases h : op < 45
 ·exact (show ∀ op : Fin 45, known op = true ↔ word op ≠ [] by decide) ⟨op, h⟩
 ·have : W[op]? = none := List.getElem?_eq_none (by rw [W_len]; omega)
  simp [known, word, this]
  omega
theorem jZ4 {op : Nat} (h : known op = true) : find (word op) = op := by
 simp only [known, Bool.and_eq_true, decide_eq_true_eq] at h
 exact (show ∀ op : Fin 45, 1 ≤ op.val → find (word op) = op by decide) ⟨op, h.2⟩ h.1
theorem zYas {w : Bs} (h : find w ≠ 0) : known (find w) = true ∧ word (find w) = w := by
 unfold find at h ⊢
 split at h
 case h_2 => exact absurd rfl h
 rename_i i hi
 obtain ⟨h1, h2, _⟩ := List.findIdx?_eq_some_iff_getElem.1 hi
 have h3 : i < 44 := by
  have := W_len
  simp only [List.length_drop] at h1
  omega
 refine ⟨by simp [known]; omega, ?_⟩
 have h4 : (W.drop 1)[i]? = some w := by rw [List.getElem?_eq_getElem h1]; simpa using h2
 rw [List.getElem?_drop, Nat.add_comm] at h4
 simp [word, h4]
theorem find_none {w : Bs} (h : find w = 0) : ∀ op, known op = true → word op ≠ w := fun op hk e => by
 have := jZ4 hk
 rw [e, h] at this
 subst this
 cases hk
theorem word_clean {op : Nat} : ∀ b ∈ word op, b ≠ 32 ∧ b ≠ 10 := by
 by_cases h : op < 45
 ·exact (show ∀ op : Fin 45, ∀ b ∈ word op, b ≠ 32 ∧ b ≠ 10 by decide) ⟨op, h⟩
 ·have : W[op]? = none := List.getElem?_eq_none (by rw [W_len]; omega)
  simp [word, this]
def letters : Bs := [65, 66, 67, 78, 77, 83, 84, 68, 76, 75, 89]
theorem jZ6 (op : Nat) : (flds op).Nodup ∧ ∀ r ∈ flds op, r ∈ letters := by
 by_cases h : op < 45
 ·exact (show ∀ op : Fin 45, (flds op).Nodup ∧ ∀ r ∈ flds op, r ∈ letters by decide) ⟨op, h⟩
 ·have : F[op]? = none := List.getElem?_eq_none (by simp [F]; omega)
  simp [flds, this]
/-! ### Numbers -/
theorem jZV (n : Nat) : ∀ b ∈ dec n, dig b = true := by
 induction n using Nat.strongRecOn with
 | _ n ih =>
  unfold dec
  split
  ·intro b hb
   simp only [List.mem_singleton] at hb
   subst hb
   simp [dig]
   omega
  ·intro b hb
   rcases List.mem_append.1 hb with hb | hb
   ·exact ih _ (by omega) b hb
   ·simp only [List.mem_singleton] at hb
    subst hb
    simp [dig]
    omega
theorem zYaQ (n : Nat) : dec n ≠ [] := by unfold dec; split <;> simp
theorem zYax (l : Bs) (b : UInt8) : valD (l ++ [b]) = 10 * valD l + (b.toNat - 48) := by simp [valD]
theorem valD_dec (n : Nat) : valD (dec n) = n := by
 induction n using Nat.strongRecOn with
 | _ n ih =>
  unfold dec
  split
  ·simp [valD]; omega
  ·rw [zYax, ih _ (by omega)]
   simp
   omega
theorem vZI {p : UInt8 → Bool} : ∀ {l r : Bs}, (∀ b ∈ l, p b = true) → (∀ b, r.head? = some b → p b = false) → (l ++ r).takeWhile p = l
 | [], r, _, h => by
  cases r with
  | nil => rfl
  | cons b r => simp [List.takeWhile_cons, h b rfl]
 | x :: l, r, h, h2 => by
  simp only [List.cons_append, List.takeWhile_cons, h x (by simp), if_true]
  rw [vZI (fun b hb => h b (by simp [hb])) h2]
def ok64 (n : Int) : Prop := -9223372036854775808 ≤ n ∧ n < 9223372036854775808
theorem numPre_itoa {n : Int} {r : Bs} (h : ∀ b, r.head? = some b → dig b = false) : numPre (itoa n ++ r) = itoa n := by
 unfold itoa
 split
 ·simp only [List.cons_append, numPre, if_true]
  rw [vZI (jZV _) h]
 ·obtain ⟨b, l, hbl⟩ : ∃ b l, dec n.natAbs = b :: l := by
   cases h : dec n.natAbs with
   | nil => exact absurd h (zYaQ _)
   | cons b l => exact ⟨b, l, rfl⟩
  have hb : b ≠ 45 := fun e => by
   have := jZV n.natAbs b (by rw [hbl]; simp)
   rw [e] at this
   cases this
  have : numPre (dec n.natAbs ++ r) = (dec n.natAbs ++ r).takeWhile dig := by
   rw [hbl]
   simp only [List.cons_append, numPre, if_neg hb]
  rw [this, vZI (jZV _) h]
theorem atoi_itoa {n : Int} (h : ok64 n) : atoi (itoa n) = some n := by
 unfold itoa
 obtain ⟨b, l, hbl⟩ : ∃ b l, dec n.natAbs = b :: l := by
  cases h : dec n.natAbs with
  | nil => exact absurd h (zYaQ _)
  | cons b l => exact ⟨b, l, rfl⟩
 have hb : b ≠ 45 := fun e => by
  have := jZV n.natAbs b (by rw [hbl]; simp)
  rw [e] at this
  cases this
 have hv := valD_dec n.natAbs
 obtain ⟨h1, h2⟩ := h
 split
 ·simp only [atoi, if_true, hv, zYaQ, if_false]
  rw [if_pos (by omega)]
  congr 1
  omega
 ·have : atoi (dec n.natAbs) = if valD (dec n.natAbs) ≤ 9223372036854775807 then some (valD (dec n.natAbs) : Int) else none := by
   rw [hbl]
   simp only [atoi, if_neg hb]
  rw [this, hv, if_pos (by omega)]
  congr 1
  omega
theorem kZg {n : Int} (h : ok64 n) {r : Bs} (hr : ∀ b, r.head? = some b → dig b = false) : number (itoa n ++ r) = some (n, r) := by
 unfold number
 rw [numPre_itoa hr, atoi_itoa h]
 simp
theorem numPre_pre (s : Bs) : numPre s ++ s.drop (numPre s).length = s := by
 have tw : ∀ l : Bs, l.takeWhile dig ++ l.drop (l.takeWhile dig).length = l := fun l => by
  conv => rhs; rw [← List.takeWhile_append_dropWhile (p := dig) (l := l)]
  congr 1
  conv => lhs; arg 2; rw [← List.takeWhile_append_dropWhile (p := dig) (l := l)]
  rw [List.drop_left]
 cases s with
 | nil => rfl
 | cons b r =>
  simp only [numPre]
  split
  ·rename_i e
   subst e
   simp [tw]
  ·exact tw _
theorem atoi_ok {t : Bs} {n : Int} (h : atoi t = some n) : ok64 n := by
 unfold atoi at h
 split at h
 ·cases h
 ·split at h
  ·split at h
   ·cases h
   ·split at h
    ·cases h; constructor <;> omega
    ·cases h
  ·split at h
   ·cases h; constructor <;> omega
   ·cases h
theorem vZl {s r : Bs} {n : Int} (h : number s = some (n, r)) : ok64 n ∧ s = itoa n ++ r := by
 unfold number at h
 split at h
 ·cases h
 ·rename_i m hm
  split at h
  ·rename_i hi
   cases h
   exact ⟨atoi_ok hm, by rw [hi]; exact (numPre_pre s).symm⟩
  ·cases h
/-! ### Texts -/
theorem hd_hx {d : Nat} (h : d < 16) : hd (hx d) = some d := by
 exact (show ∀ d : Fin 16, hd (hx d) = some d.val by decide) ⟨d, h⟩
theorem hx_hd {b : UInt8} {d : Nat} (h : hd b = some d) : d < 16 ∧ hx d = b := by
 have : ∀ n : Fin 256, ∀ d, hd (UInt8.ofNat n) = some d → d < 16 ∧ hx d = UInt8.ofNat n := by
  intro n
  have key : ∀ n : Fin 256, (match hd (UInt8.ofNat n) with | some d => decide (d < 16) && hx d == UInt8.ofNat n | none => true) = true := by decide +kernel
  intro d hd'
  have := key n
  rw [hd'] at this
  simpa using this
 have := this ⟨b.toNat, b.toNat_lt⟩ d (by simpa using h)
 simpa using this
theorem hexv_hexs : ∀ (k u v : Nat) (r : Bs), hexv k (hexs k u ++ r) v = some (16 ^ k * v + u % 16 ^ k)
 | 0, u, v, r => by simp [hexv, Nat.mod_one]
 | k + 1, u, v, r => by
  simp only [hexs, List.cons_append, hexv, hd_hx (Nat.mod_lt _ (by omega : 0 < 16))]
  rw [hexv_hexs k u _ r]
  congr 1
  have := Nat.mod_pow_succ (x := u) (b := 16) (k := k)
  rw [this, Nat.pow_succ]
  generalize u / 16 ^ k % 16 = d
  have : 16 ^ k * (16 * v + d) = 16 ^ k * 16 * v + 16 ^ k * d := by rw [Nat.mul_add, Nat.mul_assoc]
  omega
theorem zYak : ∀ k u, (hexs k u).length = k
 | 0, u => rfl
 | k + 1, u => by simp [hexs, zYak k u]
theorem hexv_back : ∀ {k : Nat} {r : Bs} {v u : Nat}, hexv k r v = some u → ∃ w, w < 16 ^ k ∧ u = 16 ^ k * v + w ∧ r.take k = hexs k w ∧ k ≤ r.length
 | 0, r, v, u, h => by simp only [hexv, Option.some.injEq] at h; exact ⟨0, by simp, by simp [h], by simp [hexs], Nat.zero_le _⟩
 | k + 1, [], v, u, h => by cases h
 | k + 1, b :: r, v, u, h => by
  simp only [hexv] at h
  split at h
  ·cases h
  rename_i d hd'
  obtain ⟨hd1, hd2⟩ := hx_hd hd'
  obtain ⟨w, h1, h2, h3, h4⟩ := hexv_back h
  have hp : 0 < 16 ^ k := Nat.pow_pos (by omega)
  refine ⟨d * 16 ^ k + w, ?_, ?_, ?_, by simpa using h4⟩
  ·rw [Nat.pow_succ]
   have : (d + 1) * 16 ^ k ≤ 16 * 16 ^ k := Nat.mul_le_mul_right _ (by omega)
   rw [Nat.add_mul] at this
   omega
  ·rw [h2, Nat.pow_succ, Nat.mul_add, Nat.mul_comm d, Nat.mul_assoc]
   omega
  ·have e1 : (d * 16 ^ k + w) / 16 ^ k % 16 = d := by
    rw [Nat.mul_comm, Nat.mul_add_div hp, Nat.div_eq_of_lt h1]
    omega
   have e2 : hexs k (d * 16 ^ k + w) = hexs k w := by
    have : ∀ (j u w : Nat), j ≤ k → u % 16 ^ j = w % 16 ^ j → hexs j u = hexs j w := by
     intro j
     induction j with
     | zero => intros; rfl
     | succ j ih =>
      intro u w hj hm
      have m1 : u % 16 ^ j = w % 16 ^ j := by
       have := congrArg (· % 16 ^ j) hm
       simpa [Nat.mod_mod_of_dvd _ (Nat.pow_dvd_pow 16 (Nat.le_succ j))] using this
      have m2 : u / 16 ^ j % 16 = w / 16 ^ j % 16 := by
       have h1 := Nat.mod_pow_succ (x := u) (b := 16) (k := j)
       have h2 := Nat.mod_pow_succ (x := w) (b := 16) (k := j)
       rw [h1, h2, m1] at hm
       have := Nat.add_left_cancel hm
       exact Nat.eq_of_mul_eq_mul_left (Nat.pow_pos (by omega)) this
      simp only [hexs, m2, ih u w (by omega) m1]
    refine this k _ _ (Nat.le_refl _) ?_
    rw [Nat.mul_comm, Nat.mul_add_mod]
   simp only [List.take_succ_cons, h3, hexs, e1, hd2, e2]
theorem u8_of {n : Nat} (h : n < 256) : (UInt8.ofNat n).toNat = n := by simp; omega
theorem unq_there {k : Nat} {y : UInt8} (hy : y ≠ 34 ∧ y ≠ 92) (r : Bs) : ∀ (l : List Nat) (out : List Nat), (∀ u ∈ l, u < 16 ^ k) → unq k y (l.flatMap (q1 k y) ++ 34 :: r) out = some (out ++ l, r)
 | [], out, _ => by
  simp only [List.flatMap_nil, List.nil_append, List.append_nil]
  unfold unq
  simp
 | u :: l, out, h => by
  have ih := fun o => unq_there hy r l o fun x hx => h x (by simp [hx])
  have hu := h u (by simp)
  simp only [List.flatMap_cons, List.append_assoc]
  generalize List.flatMap (q1 k y) l ++ 34 :: r = R at ih ⊢
  unfold q1
  by_cases hb : bare u = true
  ·have hs : 32 ≤ u ∧ u ≤ 126 ∧ u ≠ 34 ∧ u ≠ 92 := by simp [bare, shown] at hb; omega
   have e : (UInt8.ofNat u).toNat = u := u8_of (by omega)
   have n34 : UInt8.ofNat u ≠ 34 := fun q => by rw [q] at e; simp at e; omega
   rw [if_pos hb]
   simp only [List.cons_append, List.nil_append]
   unfold unq
   simp only [if_neg n34, e, hb, if_true]
   rw [ih]
   simp
  ·rw [if_neg hb]
   by_cases hs : shown u = true
   ·have h2 : u = 34 ∨ u = 92 := by simp [bare, hs] at hb; omega
    rw [if_pos hs]
    simp only [List.cons_append, List.nil_append]
    unfold unq
    rcases h2 with rfl | rfl
    ·simp [bare, shown, ih]
    ·simp [bare, shown, ih]
   ·rw [if_neg hs]
    simp only [List.cons_append]
    unfold unq
    have : hexv k (hexs k u ++ R) 0 = some u := by rw [hexv_hexs]; simp [Nat.mod_eq_of_lt hu]
    have hd : (hexs k u ++ R).drop k = R := by
     conv => lhs; arg 1; rw [← zYak k u]
     simp
    simp [bare, shown, hy.1, hy.2, this, hs, hd, ih]
    have : shown u = false := by simpa using hs
    simp [shown] at this
    omega
theorem unq_back {k : Nat} {y : UInt8} (hk : k ≤ 4) (hk2 : 2 ≤ k) : ∀ (s : Bs) (out : List Nat) {o : List Nat} {r : Bs}, unq k y s out = some (o, r) → ∃ l, o = out ++ l ∧ (∀ u ∈ l, u < 16 ^ k) ∧ s = l.flatMap (q1 k y) ++ 34 :: r := by
 have h256 : 256 ≤ 16 ^ k := by
  have := Nat.pow_le_pow_right (n := 16) (by omega) hk2
  simpa using this
 intro s out
 induction s, out using unq.induct k y with
 | case1 out => intro o r h; unfold unq at h; cases h
 | case2 out r0 =>
  intro o r h
  unfold unq at h
  simp only [if_true, Option.some.injEq, Prod.mk.injEq] at h
  obtain ⟨rfl, rfl⟩ := h
  exact ⟨[], by simp, by simp, rfl⟩
 | case3 out b r0 hb hbare ih =>
  intro o r h
  unfold unq at h
  simp only [if_neg hb, hbare, if_true] at h
  obtain ⟨l, h1, h2, h3⟩ := ih h
  refine ⟨b.toNat :: l, by simp [h1], ?_, ?_⟩
  ·intro u hu
   rcases List.mem_cons.1 hu with rfl | hu
   ·have := b.toNat_lt; omega
   ·exact h2 u hu
  ·simp [q1, hbare, h3]
 | case4 out b r0 hb hbare hne =>
  intro o r h
  unfold unq at h
  simp [if_neg hb, hbare, hne] at h
 | case5 out b hb hbare hne =>
  intro o r h
  unfold unq at h
  simp [if_neg hb, hbare, hne] at h
 | case6 out b hb hbare hne e r2 he ih =>
  intro o r h
  unfold unq at h
  simp only [if_neg hb, hbare, if_neg hne, if_pos he] at h
  obtain ⟨l, h1, h2, h3⟩ := ih h
  have b92 : b = 92 := by simpa using hne
  subst b92
  refine ⟨e.toNat :: l, by simp [h1], ?_, ?_⟩
  ·intro u hu
   rcases List.mem_cons.1 hu with rfl | hu
   ·have := e.toNat_lt; omega
   ·exact h2 u hu
  ·rcases he with rfl | rfl <;> simp [q1, bare, shown, h3]
 | case7 out b hb hbare hne e r2 he hey =>
  intro o r h
  unfold unq at h
  simp [if_neg hb, hbare, if_neg hne, if_neg he, hey] at h
 | case8 out b hb hbare hne e r2 he hey hx =>
  intro o r h
  unfold unq at h
  simp [if_neg hb, hbare, if_neg hne, if_neg he, hey, hx] at h
 | case9 out b hb hbare hne e r2 he hey u hx hs =>
  intro o r h
  unfold unq at h
  simp [if_neg hb, hbare, if_neg hne, if_neg he, hey, hx, hs] at h
 | case10 out b hb hbare hne e r2 he hey u hx hs ih =>
  intro o r h
  unfold unq at h
  simp only [if_neg hb, hbare, if_neg hne, if_neg he, if_neg hey, hx, if_neg hs] at h
  obtain ⟨l, h1, h2, h3⟩ := ih h
  obtain ⟨w, w1, w2, w3, w4⟩ := hexv_back hx
  simp only [Nat.mul_zero, Nat.zero_add] at w2
  subst w2
  have b92 : b = 92 := by simpa using hne
  have hey' : e = y := by simpa using hey
  subst b92 hey'
  refine ⟨u :: l, by simp [h1], ?_, ?_⟩
  ·intro v hv
   rcases List.mem_cons.1 hv with rfl | hv
   ·exact w1
   ·exact h2 v hv
  ·have nb : bare u = false := by simp [bare, hs]
   have hs' : shown u = false := by simpa using hs
   simp only [List.flatMap_cons, q1, nb, hs', Bool.false_eq_true, if_false, List.cons_append, List.append_assoc, ← h3, ← w3]
   rw [List.take_append_drop]
theorem wZZ {k : Nat} {y : UInt8} (hy : y ≠ 34 ∧ y ≠ 92) {l : List Nat} (h : ∀ u ∈ l, u < 16 ^ k) (r : Bs) : unquote k y (quoteU k y l ++ r) = some (l, r) := by
 simp only [quoteU, List.cons_append, unquote, if_true, List.append_assoc, List.nil_append]
 rw [unq_there hy r l [] h]
 rfl
theorem jZx {k : Nat} {y : UInt8} (hk : k ≤ 4) (hk2 : 2 ≤ k) {s : Bs} {o : List Nat} {r : Bs} (h : unquote k y s = some (o, r)) : (∀ u ∈ o, u < 16 ^ k) ∧ s = quoteU k y o ++ r := by
 unfold unquote at h
 split at h
 ·cases h
 ·rename_i b r0
  split at h
  ·rename_i hb
   obtain ⟨l, h1, h2, h3⟩ := unq_back hk hk2 _ _ h
   simp only [List.nil_append] at h1
   subst h1 hb
   exact ⟨h2, by simp [quoteU, h3]⟩
  ·cases h
theorem narrow_map (s : Bs) : narrow (s.map (·.toNat)) = s := by simp [narrow, List.map_map, Function.comp_def]
theorem wZI (s r : Bs) : textR (quoteB s ++ r) = some (s, r) := by
 unfold textR quoteB
 rw [wZZ (by decide) (by
  intro u hu
  obtain ⟨b, _, rfl⟩ := List.mem_map.1 hu
  have := b.toNat_lt
  omega)]
 simp [narrow_map]
theorem jZn {s o r : Bs} (h : textR s = some (o, r)) : s = quoteB o ++ r := by
 unfold textR at h
 simp only [Option.map_eq_some_iff, Prod.mk.injEq] at h
 obtain ⟨⟨l, r'⟩, h1, h2, h3⟩ := h
 simp only at h2 h3
 subst h3
 obtain ⟨h4, h5⟩ := jZx (by omega) (by omega) h1
 have : o.map (·.toNat) = l := by
  rw [← h2]
  simp only [narrow, List.map_map]
  conv => rhs; rw [← List.map_id l]
  refine List.map_congr_left fun u hu => ?_
  exact u8_of (h4 u hu)
 rw [h5]
 unfold quoteB
 rw [this]
/-! ### Lists -/
section
variable {α : Type} {one : Bs → Option (α × Bs)} {w : α → Bs}
theorem jZt {P : α → Prop} (h1 : ∀ x r, P x → (∀ b, r.head? = some b → b = 32 ∨ b = 93) → one (w x ++ r) = some (x, r)) (r : Bs) : ∀ (l : List α) (x : α) (out : List α), (∀ y ∈ x :: l, P y) →
  itemsL one (jn ((x :: l).map w) ++ 93 :: r) out = some (out ++ x :: l, r)
 | [], x, out, hP => by
  unfold itemsL
  simp only [List.map_cons, List.map_nil, jn]
  rw [h1 x _ (hP x (by simp)) (by simp)]
  simp
 | z :: l, x, out, hP => by
  have ih := jZt h1 r l z (out ++ [x]) (fun y hy => hP y (by simp at hy ⊢; exact .inr hy))
  unfold itemsL
  have e : jn ((x :: z :: l).map w) = w x ++ 32 :: jn ((z :: l).map w) := by simp [jn]
  rw [e, List.append_assoc, List.cons_append]
  rw [h1 x _ (hP x (by simp)) (by simp)]
  simp only [if_neg (by decide : ¬ (32 : UInt8) = 93), if_true]
  rw [if_pos (by simp; omega), ih]
  simp
theorem kZd (h1 : ∀ s x r, one s = some (x, r) → s = w x ++ r) : ∀ (s : Bs) (out : List α) {o : List α} {r : Bs}, itemsL one s out = some (o, r) → ∃ x l, o = out ++ x :: l ∧ s = jn ((x :: l).map w) ++ 93 :: r := by
 intro s out
 induction s, out using itemsL.induct one with
 | case1 s out hn => intro o r h; unfold itemsL at h; simp [hn] at h
 | case2 s out x hn => intro o r h; unfold itemsL at h; simp [hn] at h
 | case3 s out x r' hn =>
  intro o r h
  unfold itemsL at h
  simp only [hn, if_true, Option.some.injEq, Prod.mk.injEq] at h
  obtain ⟨rfl, rfl⟩ := h
  exact ⟨x, [], rfl, by rw [h1 _ _ _ hn]; simp [jn]⟩
 | case4 s out x r' hlt h1' hn ih =>
  intro o r h
  unfold itemsL at h
  simp only [hn] at h
  simp [hlt] at h
  obtain ⟨z, l, h3, h4⟩ := ih h
  refine ⟨x, z :: l, by simp [h3], ?_⟩
  rw [h1 _ _ _ hn, h4]
  simp [jn]
 | case5 s out x r' hlt h1' hn =>
  intro o r h
  unfold itemsL at h
  simp [hn, hlt] at h
 | case6 s out x e r' he h32 hn =>
  intro o r h
  unfold itemsL at h
  simp [hn, he, h32] at h
theorem kZR {P : α → Prop} (h1 : ∀ s x r, one s = some (x, r) → P x) : ∀ (s : Bs) (out : List α) {o : List α} {r : Bs}, itemsL one s out = some (o, r) → (∀ y ∈ out, P y) → ∀ y ∈ o, P y := by
 intro s out
 induction s, out using itemsL.induct one with
 | case1 s out hn => intro o r h; unfold itemsL at h; simp [hn] at h
 | case2 s out x hn => intro o r h; unfold itemsL at h; simp [hn] at h
 | case3 s out x r' hn =>
  intro o r h hP
  unfold itemsL at h
  simp only [hn, if_true, Option.some.injEq, Prod.mk.injEq] at h
  obtain ⟨rfl, rfl⟩ := h
  intro y hy
  rcases List.mem_append.1 hy with hy | hy
  ·exact hP y hy
  ·simp only [List.mem_singleton] at hy
   subst hy
   exact h1 _ _ _ hn
 | case4 s out x r' hlt h1' hn ih =>
  intro o r h hP
  unfold itemsL at h
  simp only [hn] at h
  simp [hlt] at h
  refine ih h fun y hy => ?_
  rcases List.mem_append.1 hy with hy | hy
  ·exact hP y hy
  ·simp only [List.mem_singleton] at hy
   subst hy
   exact h1 _ _ _ hn
 | case5 s out x r' hlt h1' hn =>
  intro o r h
  unfold itemsL at h
  simp [hn, hlt] at h
 | case6 s out x e r' he h32 hn =>
  intro o r h
  unfold itemsL at h
  simp [hn, he, h32] at h
theorem items_all {P : α → Prop} (h1 : ∀ s x r, one s = some (x, r) → P x) {s : Bs} {o : List α} {r : Bs} (h : items one s [] = some (o, r)) : ∀ y ∈ o, P y := by
 unfold items at h
 split at h
 ·cases h
 ·split at h
  case isFalse => cases h
  split at h
  ·exact kZR h1 _ _ h (fun y hy => by cases hy)
  ·split at h
   ·cases h; intro y hy; cases hy
   ·exact kZR h1 _ _ h (fun y hy => by cases hy)
def wrL (w : α → Bs) (l : List α) : Bs := 91 :: (jn (l.map w) ++ [93])
theorem kZe {P : α → Prop} (h1 : ∀ x r, P x → (∀ b, r.head? = some b → b = 32 ∨ b = 93) → one (w x ++ r) = some (x, r)) (hw : ∀ x, (w x).head? ≠ some 93 ∧ w x ≠ []) (r : Bs) (l : List α) (hP : ∀ y ∈ l, P y) : items one (wrL w l ++ r) [] = some (l, r) := by
 cases l with
 | nil => simp [wrL, jn, items]
 | cons x l =>
  have := jZt h1 r l x [] hP
  have hd : jn ((x :: l).map w) ++ 93 :: r = w x ++ (match l with | [] => 93 :: r | _ :: _ => 32 :: (jn (l.map w) ++ 93 :: r)) := by
   cases l <;> simp [jn]
  obtain ⟨e, q, hq⟩ : ∃ e q, w x = e :: q := by
   cases h : w x with
   | nil => exact absurd h (hw x).2
   | cons e q => exact ⟨e, q, rfl⟩
  have he : e ≠ 93 := fun h => (hw x).1 (by rw [hq, h]; rfl)
  simp only [wrL, List.cons_append, items, if_true, List.append_assoc, List.nil_append]
  rw [hd, hq, List.cons_append]
  simp only [if_neg he]
  rw [← List.cons_append, ← hq, ← hd, this]
  rfl
theorem kZS (h1 : ∀ s x r, one s = some (x, r) → s = w x ++ r) {s : Bs} {o : List α} {r : Bs} (h : items one s [] = some (o, r)) : s = wrL w o ++ r := by
 unfold items at h
 split at h
 ·cases h
 ·rename_i b r0
  split at h
  case isFalse => cases h
  rename_i hb
  subst hb
  split at h
  ·obtain ⟨x, l, h2, h3⟩ := kZd h1 _ _ h
   exfalso
   have := congrArg List.length h3
   simp at this
  ·rename_i e r'
   split at h
   ·rename_i he
    cases h
    simp [wrL, jn, he]
   ·obtain ⟨x, l, h2, h3⟩ := kZd h1 _ _ h
    simp only [List.nil_append] at h2
    rw [h3, h2]
    simp [wrL]
end
/-! ### Fields -/
def okC (c : Cmd) : Prop := ok64 c.a ∧ ok64 c.b ∧ ok64 c.c ∧ ok64 c.n ∧ ok64 c.m ∧ (∀ u ∈ c.data, u < 65536) ∧ ∀ n ∈ c.list, ok64 n
def sep (r : Bs) : Prop := ∀ b, r.head? = some b → b = 32
theorem sep_dig {r : Bs} (h : ∀ b, r.head? = some b → b = 32 ∨ b = 93) : ∀ b, r.head? = some b → dig b = false := fun b hb => by rcases h b hb with rfl | rfl <;> rfl
theorem xZ9 (n : Int) : (itoa n).head? ≠ some 93 ∧ itoa n ≠ [] := by
 unfold itoa
 split
 ·simp
 ·refine ⟨fun h => ?_, zYaQ _⟩
  have := jZV n.natAbs 93 (List.mem_of_mem_head? h)
  cases this
theorem zYaq (s : Bs) : (quoteB s).head? ≠ some 93 ∧ quoteB s ≠ [] := by simp [quoteB, quoteU]
theorem yesR_there (b : Bool) {r : Bs} (hr : sep r) : yesR (yesB b ++ r) = some (b, r) := by
 cases b <;> simp [yesR, yesB]
theorem yesR_back {s r : Bs} {b : Bool} (h : yesR s = some (b, r)) : s = yesB b ++ r := by
 unfold yesR at h
 split at h
 ·rename_i h3
  cases h
  rw [← List.take_append_drop 3 s, h3]
  simp [yesB]
 ·split at h
  ·rename_i h2
   cases h
   rw [← List.take_append_drop 2 s, h2]
   simp [yesB]
  ·cases h
theorem rd_there {r : UInt8} (hr : r ∈ letters) {c d : Cmd} (hc : okC c) {s : Bs} (hs : sep s) : rd r d (wf r c ++ s) = some (put r c d, s) := by
 obtain ⟨o1, o2, o3, o4, o5, o6, o7⟩ := hc
 have hs' : ∀ b, s.head? = some b → b = 32 ∨ b = 93 := fun b hb => .inl (hs b hb)
 have num : ∀ {n}, ok64 n → number (itoa n ++ s) = some (n, s) := fun h => kZg h (sep_dig hs')
 simp only [letters, List.mem_cons, List.not_mem_nil, or_false] at hr
 rcases hr with rfl | rfl | rfl | rfl | rfl | rfl | rfl | rfl | rfl | rfl | rfl
 ·simp [rd, wf, put, num o1]
 ·simp [rd, wf, put, num o2]
 ·simp [rd, wf, put, num o3]
 ·simp [rd, wf, put, num o4]
 ·simp [rd, wf, put, num o5]
 ·simp [rd, wf, put, wZI]
 ·simp [rd, wf, put, wZI]
 ·simp [rd, wf, put, wZZ (k := 4) (y := 117) (by decide) o6]
 ·have := kZe (one := number) (w := itoa) (P := ok64) (fun x r hx hr => kZg hx (sep_dig hr)) xZ9 s c.list o7
  simp only [wrL] at this
  simp [rd, wf, put]
  simp at this
  simp [this]
 ·have := kZe (one := textR) (w := quoteB) (P := fun _ => True) (fun x r _ _ => wZI x r) zYaq s c.names (fun _ _ => trivial)
  simp only [wrL] at this
  simp [rd, wf, put]
  simp at this
  simp [this]
 ·simp [rd, wf, put, yesR_there _ hs]
theorem tail_sep (l : Bs) (c : Cmd) : sep (tail l c) := by
 cases l <;> simp [tail, sep]
theorem kZH {c : Cmd} (hc : okC c) : ∀ {l : Bs} (d : Cmd), (∀ r ∈ l, r ∈ letters) → cmdR l d (tail l c) = some (puts l c d, [])
 | [], d, _ => rfl
 | r :: l, d, h => by
  have ih := kZH hc (l := l) (put r c d) fun x hx => h x (by simp [hx])
  have e : tail (r :: l) c = 32 :: (wf r c ++ tail l c) := by simp [tail]
  rw [e]
  simp only [cmdR, if_true]
  rw [rd_there (h r (by simp)) hc (tail_sep l c)]
  exact ih
theorem wordOf_line {op : Nat} {s : Bs} (hs : sep s) : wordOf (word op ++ s) = word op := by
 refine vZI (fun b hb => by simpa using (word_clean b hb).1) fun b hb => ?_
 rw [hs b hb]
 rfl
theorem command_line {c : Cmd} (hc : okC c) (hk : known c.op = true) : command (lineB c) = some (plain c) := by
 unfold command lineB
 rw [wordOf_line (tail_sep _ c), jZ4 hk]
 have h0 : c.op ≠ 0 := fun e => by rw [e] at hk; cases hk
 have := kZH hc (l := flds c.op) { op := c.op } (jZ6 c.op).2
 split
 ·rename_i h; exact absurd h h0
 ·simp only [List.drop_left, this]
  rfl
theorem rd_65 (c : Cmd) (s : Bs) : rd 65 c s = (number s).map fun p => ({ c with a := p.1 }, p.2) := rfl
theorem rd_66 (c : Cmd) (s : Bs) : rd 66 c s = (number s).map fun p => ({ c with b := p.1 }, p.2) := rfl
theorem rd_67 (c : Cmd) (s : Bs) : rd 67 c s = (number s).map fun p => ({ c with c := p.1 }, p.2) := rfl
theorem rd_78 (c : Cmd) (s : Bs) : rd 78 c s = (number s).map fun p => ({ c with n := p.1 }, p.2) := rfl
theorem rd_77 (c : Cmd) (s : Bs) : rd 77 c s = (number s).map fun p => ({ c with m := p.1 }, p.2) := rfl
theorem rd_83 (c : Cmd) (s : Bs) : rd 83 c s = (textR s).map fun p => ({ c with s := p.1 }, p.2) := rfl
theorem rd_84 (c : Cmd) (s : Bs) : rd 84 c s = (textR s).map fun p => ({ c with t := p.1 }, p.2) := rfl
theorem rd_68 (c : Cmd) (s : Bs) : rd 68 c s = (unquote 4 117 s).map fun p => ({ c with data := p.1 }, p.2) := rfl
theorem rd_76 (c : Cmd) (s : Bs) : rd 76 c s = (items number s []).map fun p => ({ c with list := p.1 }, p.2) := rfl
theorem rd_75 (c : Cmd) (s : Bs) : rd 75 c s = (items textR s []).map fun p => ({ c with names := p.1 }, p.2) := rfl
theorem rd_89 (c : Cmd) (s : Bs) : rd 89 c s = (yesR s).map fun p => ({ c with yes := p.1 }, p.2) := rfl
theorem rd_back {r : UInt8} {d d1 : Cmd} {s s1 : Bs} (h : rd r d s = some (d1, s1)) (ho : okC d) : s = wf r d1 ++ s1 ∧ d1 = put r d1 d ∧ okC d1 := by
 obtain ⟨o1, o2, o3, o4, o5, o6, o7⟩ := ho
 have key : ∀ {α : Type} {x : Option (α × Bs)} {f : α → Cmd}, x.map (fun p => (f p.1, p.2)) = some (d1, s1) → ∃ y, x = some (y, s1) ∧ d1 = f y := by
  intro α x f h
  simp only [Option.map_eq_some_iff, Prod.mk.injEq] at h
  obtain ⟨⟨y, z⟩, h1, h2, rfl⟩ := h
  exact ⟨y, h1, h2.symm⟩
 by_cases h65 : r = 65
 ·subst h65
  rw [rd_65] at h
  obtain ⟨y, h1, rfl⟩ := key (f := fun y => { d with a := y }) h
  obtain ⟨h2, h3⟩ := vZl h1
  exact ⟨h3, rfl, h2, o2, o3, o4, o5, o6, o7⟩
 by_cases h66 : r = 66
 ·subst h66
  rw [rd_66] at h
  obtain ⟨y, h1, rfl⟩ := key (f := fun y => { d with b := y }) h
  obtain ⟨h2, h3⟩ := vZl h1
  exact ⟨h3, rfl, o1, h2, o3, o4, o5, o6, o7⟩
 by_cases h67 : r = 67
 ·subst h67
  rw [rd_67] at h
  obtain ⟨y, h1, rfl⟩ := key (f := fun y => { d with c := y }) h
  obtain ⟨h2, h3⟩ := vZl h1
  exact ⟨h3, rfl, o1, o2, h2, o4, o5, o6, o7⟩
 by_cases h78 : r = 78
 ·subst h78
  rw [rd_78] at h
  obtain ⟨y, h1, rfl⟩ := key (f := fun y => { d with n := y }) h
  obtain ⟨h2, h3⟩ := vZl h1
  exact ⟨h3, rfl, o1, o2, o3, h2, o5, o6, o7⟩
 by_cases h77 : r = 77
 ·subst h77
  rw [rd_77] at h
  obtain ⟨y, h1, rfl⟩ := key (f := fun y => { d with m := y }) h
  obtain ⟨h2, h3⟩ := vZl h1
  exact ⟨h3, rfl, o1, o2, o3, o4, h2, o6, o7⟩
 by_cases h83 : r = 83
 ·subst h83
  rw [rd_83] at h
  obtain ⟨y, h1, rfl⟩ := key (f := fun y => { d with s := y }) h
  exact ⟨jZn h1, rfl, o1, o2, o3, o4, o5, o6, o7⟩
 by_cases h84 : r = 84
 ·subst h84
  rw [rd_84] at h
  obtain ⟨y, h1, rfl⟩ := key (f := fun y => { d with t := y }) h
  exact ⟨jZn h1, rfl, o1, o2, o3, o4, o5, o6, o7⟩
 by_cases h68 : r = 68
 ·subst h68
  rw [rd_68] at h
  obtain ⟨y, h1, rfl⟩ := key (f := fun y => { d with data := y }) h
  obtain ⟨h2, h3⟩ := jZx (by omega) (by omega) h1
  exact ⟨h3, rfl, o1, o2, o3, o4, o5, by simpa using h2, o7⟩
 by_cases h76 : r = 76
 ·subst h76
  rw [rd_76] at h
  obtain ⟨y, h1, rfl⟩ := key (f := fun y => { d with list := y }) h
  exact ⟨kZS (w := itoa) (fun s x r h => (vZl h).2) h1, rfl, o1, o2, o3, o4, o5, o6, items_all (fun s x r h => (vZl h).1) h1⟩
 by_cases h75 : r = 75
 ·subst h75
  rw [rd_75] at h
  obtain ⟨y, h1, rfl⟩ := key (f := fun y => { d with names := y }) h
  exact ⟨kZS (w := quoteB) (fun s x r h => jZn h) h1, rfl, o1, o2, o3, o4, o5, o6, o7⟩
 by_cases h89 : r = 89
 ·subst h89
  rw [rd_89] at h
  obtain ⟨y, h1, rfl⟩ := key (f := fun y => { d with yes := y }) h
  exact ⟨yesR_back h1, rfl, o1, o2, o3, o4, o5, o6, o7⟩
 simp [rd, h65, h66, h67, h78, h77, h83, h84, h68, h76, h75, h89] at h
theorem wf_put_ne {r q : UInt8} (h : q ≠ r) (c d : Cmd) : wf q (put r c d) = wf q d := by
 by_cases h65 : r = 65
 ·subst h65; simp [put, wf, h]
 by_cases h66 : r = 66
 ·subst h66; simp [put, wf, h]
 by_cases h67 : r = 67
 ·subst h67; simp [put, wf, h]
 by_cases h78 : r = 78
 ·subst h78; simp [put, wf, h]
 by_cases h77 : r = 77
 ·subst h77; simp [put, wf, h]
 by_cases h83 : r = 83
 ·subst h83; simp [put, wf, h]
 by_cases h84 : r = 84
 ·subst h84; simp [put, wf, h]
 by_cases h68 : r = 68
 ·subst h68; simp [put, wf, h]
 by_cases h76 : r = 76
 ·subst h76; simp [put, wf, h]
 by_cases h75 : r = 75
 ·subst h75; simp [put, wf, h]
 by_cases h89 : r = 89
 ·subst h89; simp [put, wf, h]
 simp [put, h65, h66, h67, h78, h77, h83, h84, h68, h76, h75, h89]
theorem put_op (r : UInt8) (c d : Cmd) : (put r c d).op = d.op := by
 by_cases h65 : r = 65
 ·subst h65; simp [put]
 by_cases h66 : r = 66
 ·subst h66; simp [put]
 by_cases h67 : r = 67
 ·subst h67; simp [put]
 by_cases h78 : r = 78
 ·subst h78; simp [put]
 by_cases h77 : r = 77
 ·subst h77; simp [put]
 by_cases h83 : r = 83
 ·subst h83; simp [put]
 by_cases h84 : r = 84
 ·subst h84; simp [put]
 by_cases h68 : r = 68
 ·subst h68; simp [put]
 by_cases h76 : r = 76
 ·subst h76; simp [put]
 by_cases h75 : r = 75
 ·subst h75; simp [put]
 by_cases h89 : r = 89
 ·subst h89; simp [put]
 simp [put, h65, h66, h67, h78, h77, h83, h84, h68, h76, h75, h89]
theorem put_wf {r : UInt8} {l : Bs} {e d1 d : Cmd} (h : e = puts l e d1) (hn : r ∉ l) : put r e d = put r d1 d := by
 rw [kZl] at h
 have : put r (keep l e d1) d = put r d1 d := by
  by_cases h65 : r = 65
  ·subst h65; simp [put, keep, hn]
  by_cases h66 : r = 66
  ·subst h66; simp [put, keep, hn]
  by_cases h67 : r = 67
  ·subst h67; simp [put, keep, hn]
  by_cases h78 : r = 78
  ·subst h78; simp [put, keep, hn]
  by_cases h77 : r = 77
  ·subst h77; simp [put, keep, hn]
  by_cases h83 : r = 83
  ·subst h83; simp [put, keep, hn]
  by_cases h84 : r = 84
  ·subst h84; simp [put, keep, hn]
  by_cases h68 : r = 68
  ·subst h68; simp [put, keep, hn]
  by_cases h76 : r = 76
  ·subst h76; simp [put, keep, hn]
  by_cases h75 : r = 75
  ·subst h75; simp [put, keep, hn]
  by_cases h89 : r = 89
  ·subst h89; simp [put, keep, hn]
  simp [put, h65, h66, h67, h78, h77, h83, h84, h68, h76, h75, h89]
 rwa [← h] at this
theorem cmdR_back : ∀ {l : Bs} {d e : Cmd} {s s1 : Bs}, l.Nodup → okC d → cmdR l d s = some (e, s1) → s = tail l e ++ s1 ∧ e = puts l e d ∧ okC e ∧ e.op = d.op ∧ ∀ q, q ∉ l → wf q e = wf q d
 | [], d, e, s, s1, _, ho, h => by
  simp only [cmdR, Option.some.injEq, Prod.mk.injEq] at h
  obtain ⟨rfl, rfl⟩ := h
  exact ⟨rfl, rfl, ho, rfl, fun _ _ => rfl⟩
 | r :: l, d, e, s, s1, hn, ho, h => by
  obtain ⟨n1, n2⟩ := List.nodup_cons.1 hn
  simp only [cmdR] at h
  split at h
  ·cases h
  rename_i b s'
  split at h
  case isFalse => cases h
  rename_i hb
  subst hb
  split at h
  case h_2 => cases h
  rename_i d1 s2 hr
  obtain ⟨r1, r2, r3⟩ := rd_back hr ho
  obtain ⟨c1, c2, c3, c4, c5⟩ := cmdR_back n2 r3 h
  have hw := c5 r n1
  refine ⟨?_, ?_, c3, by rw [c4, r2, put_op], fun q hq => ?_⟩
  ·rw [r1, c1, ← hw]
   simp [tail]
  ·have : put r e d = put r d1 d := put_wf c2 n1
   conv => lhs; rw [c2]
   show puts l e d1 = puts l e (put r e d)
   rw [this, ← r2]
  ·have q1 : q ≠ r := fun e => hq (by simp [e])
   have q2 : q ∉ l := fun e => hq (by simp [e])
   rw [c5 q q2, r2, wf_put_ne q1]
theorem wordOf_pre (s : Bs) : wordOf s ++ s.drop (wordOf s).length = s := by
 unfold wordOf
 conv => rhs; rw [← List.takeWhile_append_dropWhile (p := (· != 32)) (l := s)]
 congr 1
 conv => lhs; arg 2; rw [← List.takeWhile_append_dropWhile (p := (· != 32)) (l := s)]
 rw [List.drop_left]
theorem line_command {s : Bs} {c : Cmd} (h : command s = some c) : known c.op = true ∧ lineB c = s ∧ plain c = c ∧ okC c := by
 unfold command at h
 split at h
 ·cases h
 rename_i op ho
 split at h
 case h_2 => cases h
 rename_i c' hc
 cases h
 obtain ⟨k1, k2⟩ := zYas (w := wordOf s) ho
 obtain ⟨c1, c2, c3, c4, _⟩ := cmdR_back (jZ6 _).1 (by unfold okC ok64; simp) hc
 have c4' : c.op = find (wordOf s) := c4
 refine ⟨by rw [c4']; exact k1, ?_, ?_, c3⟩
 ·unfold lineB
  rw [c4', k2]
  rw [List.append_nil] at c1
  rw [← c1]
  exact wordOf_pre s
 ·unfold plain
  rw [c4']
  exact c2.symm
end Go.Proofs.Sc
