/- Scripts as texts, there and back, in plain words. No conditions. -/
import Derived.Test.YtcfgiajpbjbdpaaGreatDoorScS
set_option maxHeartbeats 16000000
set_option maxRecDepth 100000
set_option linter.unusedVariables false
set_option linter.unusedSimpArgs false
set_option linter.unusedSectionVars false
namespace Go.Proofs.Sc
structure Scr where
 cmds : List Cmd := []
 progs : List (List Cmd) := []
 fuel : Int := 0
 deriving DecidableEq
def count (s : Scr) : Nat := s.cmds.length + (s.progs.map List.length).sum
def allK (l : List Cmd) : Bool := l.all fun c => known c.op
def lnB (l : List Cmd) : Bs := l.flatMap fun c => lineB c ++ [10]
abbrev wFuel : Bs := [102, 117, 101, 108, 32]
abbrev wProgram : Bs := [112, 114, 111, 103, 114, 97, 109]
abbrev wEnd : Bs := [101, 110, 100]
abbrev wMain : Bs := [109, 97, 105, 110]
def prB (p : List Cmd) : Bs := wProgram ++ 10 :: (lnB p ++ (wEnd ++ [10]))
def printB (s : Scr) : Bs := wFuel ++ itoa s.fuel ++ 10 :: (s.progs.flatMap prB ++ (wMain ++ 10 :: lnB s.cmds))
def printR (s : Scr) : Bs × Int := if s.progs.length > 256 ∨ count s > 8192 then ([], 3) else if s.progs.all allK && allK s.cmds then (if (printB s).length > maxS then ([], 4) else (printB s, 0)) else ([], 23)
def plainS (s : Scr) : Scr := { cmds := s.cmds.map plain, progs := s.progs.map fun p => p.map plain, fuel := s.fuel }
def cutLine : Bs → Option (Bs × Bs)
 | [] => none
 | b :: r => if b = 10 then some ([], r) else (cutLine r).map fun p => (b :: p.1, p.2)
theorem zYaX : ∀ {t l r : Bs}, cutLine t = some (l, r) → t = l ++ 10 :: r ∧ 10 ∉ l
 | [], _, _, h => by cases h
 | b :: t, l, r, h => by
  unfold cutLine at h
  split at h
  ·cases h
   rename_i hb
   exact ⟨by rw [hb]; rfl, by simp⟩
  ·rename_i hb
   cases hc : cutLine t with
   | none => rw [hc] at h; cases h
   | some p =>
    obtain ⟨l', r'⟩ := p
    rw [hc] at h
    cases h
    obtain ⟨h1, h2⟩ := zYaX hc
    exact ⟨by rw [h1]; rfl, by simp [h2, Ne.symm hb]⟩
theorem zYbw : ∀ {t : Bs}, cutLine t = none → 10 ∉ t
 | [], _ => by simp
 | b :: t, h => by
  unfold cutLine at h
  split at h
  ·cases h
  ·rename_i hb
   cases hc : cutLine t with
   | none => simp [zYbw hc, Ne.symm hb]
   | some p => rw [hc] at h; cases h
theorem cutLine_line {l : Bs} (r : Bs) (h : 10 ∉ l) : cutLine (l ++ 10 :: r) = some (l, r) := by
 induction l with
 | nil => simp [cutLine]
 | cons b l ih =>
  simp only [List.mem_cons, not_or] at h
  simp [cutLine, Ne.symm h.1, ih h.2]
theorem zYbt {t l r : Bs} (h : cutLine t = some (l, r)) : r.length < t.length := by
 rw [(zYaX h).1]; simp; omega
def lns (t : Bs) : List Bs × Bs := match h : cutLine t with
 | none => ([], t)
 | some (l, r) => (l :: (lns r).1, (lns r).2)
termination_by t.length
decreasing_by all_goals exact zYbt h
theorem zYbb {t : Bs} (h : cutLine t = none) : lns t = ([], t) := by
 rw [lns]
 split
 ·rfl
 ·rename_i l r h2; rw [h] at h2; cases h2
theorem zYbj {t l r : Bs} (h : cutLine t = some (l, r)) : lns t = (l :: (lns r).1, (lns r).2) := by
 rw [lns]
 split
 ·rename_i h2; rw [h] at h2; cases h2
 ·rename_i l' r' h2
  rw [h] at h2
  cases h2
  rfl
theorem lns_line {l : Bs} (r : Bs) (h : 10 ∉ l) : lns (l ++ 10 :: r) = (l :: (lns r).1, (lns r).2) := zYbj (cutLine_line r h)
def jL (ls : List Bs) : Bs := ls.flatMap fun l => l ++ [10]
theorem lns_join (t : Bs) : jL (lns t).1 ++ (lns t).2 = t := by
 induction hn : t.length using Nat.strongRecOn generalizing t with
 | _ n ih =>
  cases h : cutLine t with
  | none => rw [zYbb h]; rfl
  | some p =>
   obtain ⟨l, r⟩ := p
   rw [zYbj h]
   have := ih r.length (by have := zYbt h; omega) r rfl
   have e := (zYaX h).1
   unfold jL at this ⊢
   simp only [List.flatMap_cons, List.append_assoc]
   rw [this, e]
   simp
theorem lns_clean (t : Bs) : (∀ l ∈ (lns t).1, 10 ∉ l) ∧ 10 ∉ (lns t).2 := by
 induction hn : t.length using Nat.strongRecOn generalizing t with
 | _ n ih =>
  cases h : cutLine t with
  | none => rw [zYbb h]; exact ⟨by simp, zYbw h⟩
  | some p =>
   obtain ⟨l, r⟩ := p
   rw [zYbj h]
   obtain ⟨h1, h2⟩ := ih r.length (by have := zYbt h; omega) r rfl
   refine ⟨fun x hx => ?_, h2⟩
   rcases List.mem_cons.1 hx with rfl | hx
   ·exact (zYaX h).2
   ·exact h1 x hx
theorem lns_jL (ls : List Bs) (h : ∀ l ∈ ls, 10 ∉ l) : lns (jL ls) = (ls, []) := by
 induction ls with
 | nil => exact zYbb rfl
 | cons l ls ih =>
  have e : jL (l :: ls) = l ++ 10 :: jL ls := by simp [jL]
  rw [e, lns_line _ (h l (by simp)), ih fun x hx => h x (by simp [hx])]
def fuelR (s : Bs) : Option Int := if s.take 5 = wFuel then (match number (s.drop 5) with
 | some (n, []) => some n
 | _ => none) else none
def addC (st : Nat) (c : Cmd) (out : Scr) : Scr :=
 if st = 2 then { out with progs := out.progs.dropLast ++ [(out.progs.getLast?.getD []) ++ [c]] } else { out with cmds := out.cmds ++ [c] }
def stp (fin : Bool) : List Bs → Nat → Nat → Nat → Scr → Scr × Int × Nat
 | [], st, many, k, out => if st = 3 ∧ fin = true then (out, 0, 0) else ({}, 20, k + 1)
 | l :: ls, st, many, k, out =>
  if st = 0 then (match fuelR l with
   | none => ({}, 20, k + 1)
   | some n => stp fin ls 1 many (k + 1) { out with fuel := n })
  else if st = 1 then
   if l = wMain then stp fin ls 3 many (k + 1) out
   else if l = wProgram then (if out.progs.length ≥ 256 then ({}, 3, k + 1) else stp fin ls 2 many (k + 1) { out with progs := out.progs ++ [[]] })
   else ({}, 20, k + 1)
  else if st = 2 ∧ l = wEnd then stp fin ls 1 many (k + 1) out
  else match command l with
   | none => ({}, 20, k + 1)
   | some c => if many ≥ 8192 then ({}, 3, k + 1) else stp fin ls st (many + 1) (k + 1) (addC st c out)
def parseR (t : Bs) : Scr × Int × Nat := if t.length > maxS then ({}, 4, 0) else stp ((lns t).2 == []) (lns t).1 0 0 0 {}
/-! ### No line's end in a line -/
theorem q1_clean {k : Nat} {y : UInt8} (hy : y ≠ 10) (u : Nat) : 10 ∉ q1 k y u := by
 unfold q1
 split
 ·rename_i h
  simp only [bare, shown, Bool.and_eq_true, decide_eq_true_eq] at h
  intro hm
  have := List.mem_singleton.1 hm
  have := congrArg UInt8.toNat this
  rw [u8_of (by omega)] at this
  simp at this
  omega
 ·split
  ·rename_i h
   simp only [shown, Bool.and_eq_true, decide_eq_true_eq] at h
   intro hm
   simp only [List.mem_cons, List.not_mem_nil, or_false] at hm
   rcases hm with hm | hm
   ·cases hm
   ·have := congrArg UInt8.toNat hm
    rw [u8_of (by omega)] at this
    simp at this
    omega
  ·intro hm
   simp only [List.mem_cons] at hm
   rcases hm with hm | hm | hm
   ·cases hm
   ·exact hy hm.symm
   ·have : ∀ k, 10 ∉ hexs k u := by
     intro k
     induction k with
     | zero => simp [hexs]
     | succ k ih =>
      simp only [hexs, List.mem_cons, not_or]
      refine ⟨fun e => ?_, ih⟩
      have hlt : u / 16 ^ k % 16 < 16 := Nat.mod_lt _ (by omega)
      have := congrArg UInt8.toNat e
      unfold hx at this
      split at this
      ·rw [u8_of (by omega)] at this; simp at this; omega
      ·rw [u8_of (by omega)] at this; simp at this; omega
    exact this _ hm
theorem zYby {k : Nat} {y : UInt8} (hy : y ≠ 10) (l : List Nat) : 10 ∉ quoteU k y l := by
 unfold quoteU
 simp only [List.mem_cons, List.mem_append, List.mem_flatMap, List.not_mem_nil, or_false, not_or, not_exists, not_and]
 exact ⟨by decide, fun u _ => q1_clean hy u, by decide⟩
theorem zYbu (n : Int) : 10 ∉ itoa n := by
 have h : ∀ m, 10 ∉ dec m := fun m hm => by have := jZV m 10 hm; simp [dig] at this
 unfold itoa
 split
 ·simp only [List.mem_cons, not_or]; exact ⟨by decide, h _⟩
 ·exact h _
theorem jn_clean : ∀ {l : List Bs}, (∀ x ∈ l, 10 ∉ x) → 10 ∉ jn l
 | [], _ => by simp [jn]
 | [x], h => by simpa [jn] using h x (by simp)
 | x :: y :: l, h => by
  have ih := jn_clean (l := y :: l) fun z hz => h z (by simp [hz])
  have e : jn (x :: y :: l) = x ++ 32 :: jn (y :: l) := by simp [jn]
  rw [e]
  simp only [List.mem_append, List.mem_cons, not_or]
  exact ⟨h x (by simp), by decide, ih⟩
theorem wf_clean {r : UInt8} (c : Cmd) : 10 ∉ wf r c := by
  unfold wf
  repeat' split
  all_goals first
    | exact zYbu _
    | exact zYby (by decide) _
    | (simp only [List.mem_cons, List.mem_append, List.not_mem_nil, or_false, not_or]
       refine ⟨by decide, jn_clean fun x hx => ?_, by decide⟩
       obtain ⟨z, _, rfl⟩ := List.mem_map.1 hx
       first | exact zYbu _ | exact zYby (by decide) _)
    | (unfold yesB; split <;> decide)
    | simp
theorem zYbA (c : Cmd) : 10 ∉ lineB c := by
 unfold lineB tail
 simp only [List.mem_append, List.mem_flatMap, List.mem_cons, not_or, not_exists, not_and]
 exact ⟨fun h => (word_clean 10 h).2 rfl, fun r _ => ⟨by decide, wf_clean c⟩⟩
/-! ### There and back -/
theorem fuelR_there {n : Int} (h : ok64 n) : fuelR (wFuel ++ itoa n) = some n := by
 have := kZg h (r := []) (by simp)
 rw [List.append_nil] at this
 simp [fuelR, this]
theorem fuelR_back {l : Bs} {n : Int} (h : fuelR l = some n) : l = wFuel ++ itoa n ∧ ok64 n := by
 unfold fuelR at h
 split at h
 ·rename_i ht
  split at h
  ·rename_i m hm
   cases h
   obtain ⟨h1, h2⟩ := vZl hm
   rw [List.append_nil] at h2
   exact ⟨by rw [← ht, ← h2, List.take_append_drop], h1⟩
  ·cases h
 ·cases h
theorem command_end : command wEnd = none := by
 unfold command
 have : find (wordOf wEnd) = 0 := by decide
 rw [this]
 rfl
theorem stp_main {fin : Bool} : ∀ (l : List Cmd) (ls : List Bs) (many k : Nat) (out : Scr), (∀ c ∈ l, okC c ∧ known c.op = true) → many + l.length ≤ 8192 →
  stp fin (l.map lineB ++ ls) 3 many k out = stp fin ls 3 (many + l.length) (k + l.length) { out with cmds := out.cmds ++ l.map plain }
 | [], ls, many, k, out, _, _ => by simp
 | c :: l, ls, many, k, out, h, hm => by
  have hc := h c (by simp)
  simp only [List.length_cons] at hm
  have hn : ¬ many ≥ 8192 := by omega
  have ih := stp_main (fin := fin) l ls (many + 1) (k + 1) { out with cmds := out.cmds ++ [plain c] } (fun x hx => h x (by simp [hx])) (by omega)
  simp only [List.map_cons, List.cons_append, stp, command_line hc.1 hc.2, show ¬ (3 : Nat) = 0 by decide, show ¬ (3 : Nat) = 1 by decide, show ¬ (3 : Nat) = 2 by decide, if_false, false_and, hn, addC]
  rw [ih]
  simp only [List.length_cons, List.append_assoc, List.cons_append, List.nil_append]
  rw [show many + 1 + l.length = many + (l.length + 1) by omega, show k + 1 + l.length = k + (l.length + 1) by omega]
theorem stp_prog {fin : Bool} : ∀ (l : List Cmd) (ls : List Bs) (many k : Nat) (out : Scr) (ps : List (List Cmd)) (p : List Cmd), (∀ c ∈ l, okC c ∧ known c.op = true) → many + l.length ≤ 8192 →
  stp fin (l.map lineB ++ ls) 2 many k { out with progs := ps ++ [p] } = stp fin ls 2 (many + l.length) (k + l.length) { out with progs := ps ++ [p ++ l.map plain] }
 | [], ls, many, k, out, ps, p, _, _ => by simp
 | c :: l, ls, many, k, out, ps, p, h, hm => by
  have hc := h c (by simp)
  simp only [List.length_cons] at hm
  have hn : ¬ many ≥ 8192 := by omega
  have hne : lineB c ≠ wEnd := fun e => by
   have := command_line hc.1 hc.2
   rw [e, command_end] at this
   cases this
  have ih := stp_prog (fin := fin) l ls (many + 1) (k + 1) out ps (p ++ [plain c]) (fun x hx => h x (by simp [hx])) (by omega)
  simp only [List.map_cons, List.cons_append, stp, command_line hc.1 hc.2, show ¬ (2 : Nat) = 0 by decide, show ¬ (2 : Nat) = 1 by decide, hne, and_false, if_false, hn, addC, if_true, List.dropLast_concat, List.getLast?_concat, Option.getD_some]
  rw [ih]
  simp only [List.length_cons, List.append_assoc, List.cons_append, List.nil_append]
  rw [show many + 1 + l.length = many + (l.length + 1) by omega, show k + 1 + l.length = k + (l.length + 1) by omega]
def lnP (p : List Cmd) : List Bs := wProgram :: (p.map lineB ++ [wEnd])
theorem stp_progs {fin : Bool} : ∀ (ps : List (List Cmd)) (ls : List Bs) (many k : Nat) (out : Scr), (∀ p ∈ ps, ∀ c ∈ p, okC c ∧ known c.op = true) → many + (ps.map List.length).sum ≤ 8192 → out.progs.length + ps.length ≤ 256 →
  ∃ k', stp fin (ps.flatMap lnP ++ ls) 1 many k out = stp fin ls 1 (many + (ps.map List.length).sum) k' { out with progs := out.progs ++ ps.map fun p => p.map plain }
 | [], ls, many, k, out, _, _, _ => ⟨k, by simp⟩
 | p :: ps, ls, many, k, out, h, hm, hp => by
  simp only [List.map_cons, List.sum_cons, List.length_cons] at hm hp
  have h1 := stp_prog (fin := fin) p ([wEnd] ++ (ps.flatMap lnP ++ ls)) many (k + 1) out out.progs [] (h p (by simp)) (by omega)
  obtain ⟨k', ih⟩ := stp_progs (fin := fin) ps ls (many + p.length) (k + 1 + p.length + 1) { out with progs := out.progs ++ [p.map plain] } (fun q hq => h q (by simp [hq])) (by omega) (by simp; omega)
  have hn : ¬ out.progs.length ≥ 256 := by omega
  refine ⟨k', ?_⟩
  simp only [List.flatMap_cons, lnP, List.cons_append, List.append_assoc] at h1 ih ⊢
  simp only [stp, show ¬ (1 : Nat) = 0 by decide, show ¬ wProgram = wMain by decide, if_false, if_true, hn]
  rw [h1]
  simp only [List.nil_append, stp, show ¬ (2 : Nat) = 0 by decide, show ¬ (2 : Nat) = 1 by decide, if_false, and_self, if_true]
  rw [ih]
  simp only [List.map_cons, List.sum_cons, List.append_assoc, List.cons_append, List.nil_append]
  rw [Nat.add_assoc]
def lnS (s : Scr) : List Bs := (wFuel ++ itoa s.fuel) :: (s.progs.flatMap lnP ++ (wMain :: s.cmds.map lineB))
theorem zYbC (a b : List Bs) : jL (a ++ b) = jL a ++ jL b := by simp [jL]
theorem jL_lines (l : List Cmd) : jL (l.map lineB) = lnB l := by simp [jL, lnB, List.flatMap_map]
theorem jL_prog (p : List Cmd) : jL (lnP p) = prB p := by
 have e : lnP p = [wProgram] ++ (p.map lineB ++ [wEnd]) := rfl
 rw [e, zYbC, zYbC, jL_lines]
 simp [jL, prB]
theorem jL_flat (ps : List (List Cmd)) : jL (ps.flatMap lnP) = ps.flatMap prB := by
 induction ps with
 | nil => rfl
 | cons p ps ih => rw [List.flatMap_cons, zYbC, ih, jL_prog, List.flatMap_cons]
theorem jL_lnS (s : Scr) : jL (lnS s) = printB s := by
 have e : lnS s = [wFuel ++ itoa s.fuel] ++ (s.progs.flatMap lnP ++ ([wMain] ++ s.cmds.map lineB)) := rfl
 rw [e, zYbC, zYbC, zYbC, jL_flat, jL_lines]
 simp [jL, printB]
theorem lnS_clean (s : Scr) : ∀ l ∈ lnS s, 10 ∉ l := by
 intro l hl
 unfold lnS lnP at hl
 simp only [List.mem_cons, List.mem_append, List.mem_flatMap, List.mem_map, List.not_mem_nil, or_false] at hl
 rcases hl with rfl | ⟨p, hp, rfl | ⟨c, hc, rfl⟩ | rfl⟩ | rfl | ⟨c, hc, rfl⟩
 ·simp only [List.mem_append, not_or]; exact ⟨by decide, zYbu _⟩
 ·decide
 ·exact zYbA c
 ·decide
 ·decide
 ·exact zYbA c
def allC (s : Scr) (P : Cmd → Prop) : Prop := (∀ c ∈ s.cmds, P c) ∧ ∀ p ∈ s.progs, ∀ c ∈ p, P c
theorem allK_all {s : Scr} (h : (s.progs.all allK && allK s.cmds) = true) : allC s fun c => known c.op = true := by
 simp only [Bool.and_eq_true, List.all_eq_true, allK] at h
 exact ⟨h.2, h.1⟩
theorem parse_print {s : Scr} (hc : allC s okC) (hf : ok64 s.fuel) (h : (printR s).2 = 0) : (printR s).1 = printB s ∧ parseR (printB s) = (plainS s, 0, 0) := by
 unfold printR at h ⊢
 split at h
 ·cases h
 rename_i h1
 split at h
 case isFalse => cases h
 rename_i h2
 split at h
 ·cases h
 rename_i h3
 rw [if_neg h1, if_pos h2, if_neg h3]
 refine ⟨rfl, ?_⟩
 have hk := allK_all h2
 unfold parseR
 rw [if_neg h3, ← jL_lnS, lns_jL _ (lnS_clean s)]
 unfold count at h1
 obtain ⟨k', hp⟩ := stp_progs (fin := true) s.progs (wMain :: s.cmds.map lineB) 0 1 { fuel := s.fuel } (fun p hp c hcm => ⟨hc.2 p hp c hcm, hk.2 p hp c hcm⟩) (by omega) (by simp; omega)
 have hm := stp_main (fin := true) s.cmds [] (0 + (s.progs.map List.length).sum) (k' + 1) { progs := [] ++ s.progs.map fun p => p.map plain, fuel := s.fuel } (fun c hcm => ⟨hc.1 c hcm, hk.1 c hcm⟩) (by omega)
 simp only [lnS, stp, fuelR_there hf, if_true, beq_self_eq_true]
 rw [hp]
 simp only [stp, show ¬ (1 : Nat) = 0 by decide, if_false, if_true]
 rw [List.append_nil] at hm
 rw [hm]
 simp only [stp, and_self, if_true, List.nil_append, plainS]
theorem count10_line {l : Bs} (h : 10 ∉ l) : l.count 10 = 0 := List.count_eq_zero.2 h
theorem count_jL : ∀ {ls : List Bs}, (∀ l ∈ ls, 10 ∉ l) → (jL ls).count 10 = ls.length
 | [], _ => rfl
 | l :: ls, h => by
  have ih := count_jL (ls := ls) fun x hx => h x (by simp [hx])
  have e : jL (l :: ls) = l ++ 10 :: jL ls := by simp [jL]
  rw [e, List.count_append, count10_line (h l (by simp)), List.count_cons, ih]
  simp
theorem count_print (s : Scr) : (printB s).count 10 = count s + 2 * s.progs.length + 2 := by
 rw [← jL_lnS, count_jL (lnS_clean s)]
 have : ∀ ps : List (List Cmd), (ps.flatMap lnP).length = (ps.map List.length).sum + 2 * ps.length := by
  intro ps
  induction ps with
  | nil => rfl
  | cons p ps ih => simp only [List.flatMap_cons, List.length_append, ih, lnP, List.length_cons, List.length_map, List.map_cons, List.sum_cons, List.length_nil]; omega
 simp only [lnS, List.length_cons, List.length_append, List.length_map, this, count]
 omega
def preT (st : Nat) (out : Scr) : Bs :=
 if st = 0 then [] else wFuel ++ itoa out.fuel ++ 10 :: (if st = 2 then out.progs.dropLast.flatMap prB ++ (wProgram ++ 10 :: lnB (out.progs.getLast?.getD [])) else out.progs.flatMap prB ++ (if st = 1 then [] else wMain ++ 10 :: lnB out.cmds))
def fine (c : Cmd) : Prop := known c.op = true ∧ plain c = c ∧ okC c
structure Inv (st many : Nat) (out : Scr) : Prop where
 m : many = count out ∧ many ≤ 8192
 p : out.progs.length ≤ 256
 c : allC out fine
 z : st = 0 → out.progs = [] ∧ out.cmds = []
 o : st = 1 ∨ st = 2 → out.cmds = []
 t : st = 2 → out.progs ≠ []
 s : st ≤ 3
theorem lnB_snoc (l : List Cmd) (c : Cmd) : lnB (l ++ [c]) = lnB l ++ (lineB c ++ [10]) := by simp [lnB]
theorem snoc_of {α : Type} {l : List α} (h : l ≠ []) : ∃ a x, l = a ++ [x] := ⟨l.dropLast, l.getLast h, (List.dropLast_concat_getLast h).symm⟩
theorem zYbl {fin : Bool} : ∀ (ls : List Bs) (st many k : Nat) (out : Scr) {r : Scr} {a : Nat}, Inv st many out → stp fin ls st many k out = (r, 0, a) →
  fin = true ∧ a = 0 ∧ printB r = preT st out ++ jL ls ∧ r.progs.length ≤ 256 ∧ count r ≤ 8192 ∧ allC r fine ∧ (st = 0 → ok64 r.fuel) ∧ (st ≠ 0 → r.fuel = out.fuel)
 | [], st, many, k, out, r, a, hi, h => by
  unfold stp at h
  split at h
  ·rename_i h3
   obtain ⟨h3, hfin⟩ := h3
   cases h
   have hm := hi.m
   refine ⟨hfin, rfl, ?_, hi.p, by omega, hi.c, fun h => by omega, fun _ => rfl⟩
   subst h3
   simp [preT, jL, printB]
  ·cases h
 | l :: ls, st, many, k, out, r, a, hi, h => by
  have ej : jL (l :: ls) = l ++ 10 :: jL ls := by simp [jL]
  rw [ej]
  unfold stp at h
  split at h
  ·rename_i h0
   subst h0
   obtain ⟨z1, z2⟩ := hi.z rfl
   split at h
   ·cases h
   ·rename_i n hn
    obtain ⟨f1, f2⟩ := fuelR_back hn
    obtain ⟨q1, q2, q3, q4, q5, q6, q8, q7⟩ := zYbl ls 1 many (k + 1) { out with fuel := n } ⟨hi.m, hi.p, hi.c, fun h => (by cases h), fun _ => z2, fun h => (by cases h), by omega⟩ h
    refine ⟨q1, q2, ?_, q4, q5, q6, fun _ => by rw [q7 (by omega)]; exact f2, fun h => absurd rfl h⟩
    rw [q3, f1]
    simp [preT, z1]
  rename_i h0
  split at h
  ·rename_i h1
   subst h1
   have z2 := hi.o (.inl rfl)
   split at h
   ·rename_i hl
    obtain ⟨q1, q2, q3, q4, q5, q6, q8, q7⟩ := zYbl ls 3 many (k + 1) out ⟨hi.m, hi.p, hi.c, fun h => (by cases h), fun h => by omega, fun h => (by cases h), by omega⟩ h
    refine ⟨q1, q2, ?_, q4, q5, q6, fun h => by omega, fun _ => q7 (by omega)⟩
    rw [q3, hl]
    simp [preT, z2, lnB]
   split at h
   ·rename_i hl
    split at h
    ·cases h
    ·rename_i hp
     have hm := hi.m
     obtain ⟨q1, q2, q3, q4, q5, q6, q8, q7⟩ := zYbl ls 2 many (k + 1) { out with progs := out.progs ++ [[]] } ⟨by simpa [count] using hm, by simp; omega, ⟨hi.c.1, fun p hp c hc => by
       rcases List.mem_append.1 hp with hp | hp
       ·exact hi.c.2 p hp c hc
       ·rw [List.mem_singleton.1 hp] at hc; cases hc⟩, fun h => (by cases h), fun _ => z2, fun _ => by simp, by omega⟩ h
     refine ⟨q1, q2, ?_, q4, q5, q6, fun h => by omega, fun _ => q7 (by omega)⟩
     rw [q3, hl]
     simp [preT, lnB]
   ·cases h
  rename_i h1
  split at h
  ·rename_i h2
   obtain ⟨h2, hl⟩ := h2
   subst h2
   obtain ⟨q1, q2, q3, q4, q5, q6, q8, q7⟩ := zYbl ls 1 many (k + 1) out ⟨hi.m, hi.p, hi.c, fun h => (by cases h), fun _ => hi.o (.inr rfl), fun h => (by cases h), by omega⟩ h
   refine ⟨q1, q2, ?_, q4, q5, q6, fun h => by omega, fun _ => q7 (by omega)⟩
   obtain ⟨ps, p, hps⟩ := snoc_of (hi.t rfl)
   rw [q3, hl]
   simp [preT, hps, prB]
  ·split at h
   ·cases h
   ·rename_i c hc
    split at h
    ·cases h
    ·rename_i hmn
     obtain ⟨l1, l2, l3, l4⟩ := line_command hc
     have hm := hi.m
     have hs := hi.s
     by_cases h2 : st = 2
     ·subst h2
      obtain ⟨ps, p, hps⟩ := snoc_of (hi.t rfl)
      have hadd : addC 2 c out = { out with progs := ps ++ [p ++ [c]] } := by simp [addC, hps]
      rw [hadd] at h
      obtain ⟨q1, q2, q3, q4, q5, q6, q8, q7⟩ := zYbl ls 2 (many + 1) (k + 1) { out with progs := ps ++ [p ++ [c]] } ⟨by
        have := hm.1
        simp only [count, hps, List.map_append, List.sum_append, List.map_cons, List.map_nil, List.sum_cons, List.sum_nil, List.length_append, List.length_cons, List.length_nil] at this ⊢
        omega, by have := hi.p; rw [hps] at this; simpa using this, ⟨hi.c.1, fun q hq x hx => by
        rcases List.mem_append.1 hq with hq | hq
        ·exact hi.c.2 q (by rw [hps]; simp [hq]) x hx
        ·rw [List.mem_singleton.1 hq] at hx
         rcases List.mem_append.1 hx with hx | hx
         ·exact hi.c.2 p (by rw [hps]; simp) x hx
         ·rw [List.mem_singleton.1 hx]; exact ⟨l1, l3, l4⟩⟩, fun h => (by cases h), fun _ => hi.o (.inr rfl), fun _ => by simp, by omega⟩ h
      refine ⟨q1, q2, ?_, q4, q5, q6, fun h => by omega, fun _ => q7 (by omega)⟩
      rw [q3, ← l2]
      simp [preT, hps, lnB_snoc]
     ·have h3 : st = 3 := by omega
      subst h3
      have hadd : addC 3 c out = { out with cmds := out.cmds ++ [c] } := by simp [addC]
      rw [hadd] at h
      obtain ⟨q1, q2, q3, q4, q5, q6, q8, q7⟩ := zYbl ls 3 (many + 1) (k + 1) { out with cmds := out.cmds ++ [c] } ⟨by
        have := hm.1
        simp only [count, List.length_append, List.length_cons, List.length_nil] at this ⊢
        omega, hi.p, ⟨fun x hx => by
        rcases List.mem_append.1 hx with hx | hx
        ·exact hi.c.1 x hx
        ·rw [List.mem_singleton.1 hx]; exact ⟨l1, l3, l4⟩, hi.c.2⟩, fun h => (by cases h), fun h => by omega, fun h => (by cases h), by omega⟩ h
      refine ⟨q1, q2, ?_, q4, q5, q6, fun h => by omega, fun _ => q7 (by omega)⟩
      rw [q3, ← l2]
      simp [preT, lnB_snoc]
theorem stp_bad {fin : Bool} : ∀ (ls : List Bs) (st many k : Nat) (out : Scr) {r : Scr} {w : Int} {a : Nat}, stp fin ls st many k out = (r, w, a) → w ≠ 0 → r = {} ∧ 0 < a ∧ a ≤ k + ls.length + 1 ∧ (w = 20 ∨ w = 3)
 | [], st, many, k, out, r, w, a, h, hw => by
  unfold stp at h
  split at h <;> cases h
  ·exact absurd rfl hw
  ·exact ⟨rfl, by omega, by simp, .inl rfl⟩
 | l :: ls, st, many, k, out, r, w, a, h, hw => by
  have go : ∀ {st many out}, stp fin ls st many (k + 1) out = (r, w, a) → r = {} ∧ 0 < a ∧ a ≤ k + (l :: ls).length + 1 ∧ (w = 20 ∨ w = 3) := fun h => by
   obtain ⟨q1, q2, q3, q4⟩ := stp_bad ls _ _ (k + 1) _ h hw
   exact ⟨q1, q2, by simp only [List.length_cons]; omega, q4⟩
  unfold stp at h
  repeat' split at h
  all_goals first
   | exact go h
   | (cases h; exact ⟨rfl, by omega, by simp only [List.length_cons]; omega, by first | exact .inl rfl | exact .inr rfl⟩)
theorem zYbB {t : Bs} {r : Scr} {w : Int} {a : Nat} (h : parseR t = (r, w, a)) :
  (w = 0 → t.length ≤ maxS ∧ printR r = (t, 0) ∧ allC r fine ∧ a = 0 ∧ ok64 r.fuel) ∧ (w ≠ 0 → r = {} ∧ (0 < a ↔ w ≠ 4)) := by
 unfold parseR at h
 split at h
 ·cases h
  exact ⟨fun h => (by cases h), fun _ => ⟨rfl, by omega⟩⟩
 ·rename_i hl
  refine ⟨fun hw => ?_, fun hw => ?_⟩
  ·subst hw
   obtain ⟨q1, q2, q3, q4, q5, q6, q8, _⟩ := zYbl _ 0 0 0 {} ⟨⟨rfl, by omega⟩, by simp, ⟨by simp, by simp⟩, fun _ => ⟨rfl, rfl⟩, fun _ => rfl, fun h => (by cases h), by omega⟩ h
   have hj := lns_join t
   rw [show (lns t).2 = [] by simpa using q1, List.append_nil] at hj
   rw [hj] at q3
   simp only [preT, if_true, List.nil_append] at q3
   refine ⟨by omega, ?_, q6, q2, q8 rfl⟩
   have hall : (r.progs.all allK && allK r.cmds) = true := by
    simp only [Bool.and_eq_true, List.all_eq_true, allK]
    exact ⟨fun p hp c hc => (q6.2 p hp c hc).1, fun c hc => (q6.1 c hc).1⟩
   unfold printR
   rw [if_neg (by omega), if_pos hall, q3, if_neg hl]
  ·obtain ⟨q1, q2, q3, q4⟩ := stp_bad _ _ _ _ _ h hw
   refine ⟨q1, ?_⟩
   rcases q4 with rfl | rfl <;> simp [q2]
end Go.Proofs.Sc
