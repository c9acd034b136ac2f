/- Commands there and back as lines: the law's walk. No conditions. -/
import Derived.Test.YtcfgiajpbjbdpaaGreatDoorScM
import Derived.Test.YtcfgiajpbjbdpaaGreatDoorScQi
set_option maxHeartbeats 16000000
set_option maxRecDepth 100000
set_option linter.unusedVariables false
set_option linter.unusedSimpArgs false
set_option linter.unusedSectionVars false
namespace Go.Proofs.Sc
open Go Go.Ev
/-! ### A command is no longer than its line -/
theorem sum_sub {f : UInt8 → Nat} : ∀ {k l : Bs}, k.Nodup → (∀ r ∈ k, f r = 0 ∨ r ∈ l) → (k.map f).sum ≤ (l.map f).sum
 | [], l, _, _ => by simp
 | r :: k, l, hn, h => by
  have hn2 := List.nodup_cons.1 hn
  rcases h r (by simp) with h0 | hr
  ·have := sum_sub (k := k) (l := l) hn2.2 fun x hx => h x (by simp [hx])
   simp only [List.map_cons, List.sum_cons, h0]
   omega
  ·have hp := List.perm_cons_erase hr
   have e := (hp.map f).sum_nat
   have := sum_sub (k := k) (l := l.erase r) hn2.2 fun x hx => (h x (by simp [hx])).imp (fun h => h) fun hxl =>
    (List.mem_erase_of_ne (fun e => hn2.1 (by rw [← e]; exact hx))).2 hxl
   rw [e]
   simp only [List.map_cons, List.sum_cons]
   omega
theorem q1_pos (k : Nat) (y : UInt8) (u : Nat) : 1 ≤ (q1 k y u).length := by
 unfold q1
 split
 ·simp
 ·split <;> simp
theorem flat_ge (k : Nat) (y : UInt8) : ∀ l : List Nat, l.length ≤ (l.flatMap (q1 k y)).length
 | [] => by simp
 | u :: l => by
  have := flat_ge k y l
  have := q1_pos k y u
  simp only [List.flatMap_cons, List.length_append, List.length_cons]
  omega
theorem zYaI (k : Nat) (y : UInt8) (l : List Nat) : l.length + 2 ≤ (quoteU k y l).length := by
 have := flat_ge k y l
 unfold quoteU
 simp only [List.length_cons, List.length_append, List.length_nil]
 omega
theorem xZV (s : Bs) : s.length + 2 ≤ (quoteB s).length := by
 have := zYaI 2 120 (s.map (·.toNat))
 rw [List.length_map] at this
 exact this
theorem jn_ge : ∀ l : List Bs, (l.map fun x => x.length + 1).sum ≤ (jn l).length + 1
 | [] => by simp
 | [x] => by simp [jn]
 | x :: y :: l => by
  have := jn_ge (y :: l)
  have e : jn (x :: y :: l) = x ++ 32 :: jn (y :: l) := by simp [jn]
  rw [e, List.length_append, List.length_cons, show (x :: y :: l).map (fun x => x.length + 1) = (x.length + 1) :: (y :: l).map (fun x => x.length + 1) from rfl, List.sum_cons]
  omega
theorem sum_le {α : Type} {f g : α → Nat} : ∀ l : List α, (∀ x, f x ≤ g x) → (l.map f).sum ≤ (l.map g).sum
 | [], _ => by simp
 | x :: l, h => by
  have := sum_le l h
  have := h x
  simp only [List.map_cons, List.sum_cons]
  omega
def wB (c : Cmd) (r : UInt8) : Nat := if r = 83 then c.s.length else if r = 84 then c.t.length else if r = 68 then c.data.length else if r = 76 then c.list.length else if r = 75 then (c.names.map fun x => x.length + 1).sum else 0
theorem wB_le (c : Cmd) (r : UInt8) : wB c r ≤ (wf r c).length := by
 unfold wB
 split
 ·rename_i h; subst h
  have := xZV c.s
  show _ ≤ (quoteB c.s).length
  omega
 split
 ·rename_i h; subst h
  have := xZV c.t
  show _ ≤ (quoteB c.t).length
  omega
 split
 ·rename_i h; subst h
  have := zYaI 4 117 c.data
  show _ ≤ (quoteU 4 117 c.data).length
  omega
 split
 ·rename_i h; subst h
  show _ ≤ (91 :: (jn (c.list.map itoa) ++ [93])).length
  have := jn_ge (c.list.map itoa)
  have h2 := xZr (c.list.map itoa)
  rw [List.length_map] at h2
  simp only [List.length_cons, List.length_append, List.length_nil]
  omega
 split
 ·rename_i h; subst h
  show _ ≤ (91 :: (jn (c.names.map quoteB) ++ [93])).length
  have := jn_ge (c.names.map quoteB)
  have h2 := sum_le (f := fun x : Bs => x.length + 1) (g := fun x : Bs => (quoteB x).length + 1) c.names fun x => by have := xZV x; omega
  rw [List.map_map] at this
  have e : ((fun x : Bs => x.length + 1) ∘ quoteB) = fun x : Bs => (quoteB x).length + 1 := rfl
  rw [e] at this
  simp only [List.length_cons, List.length_append, List.length_nil]
  omega
 ·omega
theorem tail_len (c : Cmd) : ∀ l : Bs, (l.map (wB c)).sum ≤ (tail l c).length
 | [] => by simp
 | r :: l => by
  have := tail_len c l
  have := wB_le c r
  simp only [tail, List.flatMap_cons, List.map_cons, List.sum_cons, List.length_append, List.length_cons] at *
  omega
theorem bulk_line {c : Cmd} (h : plain c = c) : bulk c ≤ (lineB c).length := by
 have hk := vZ0 c
 rw [h] at hk
 have hs : 83 ∉ flds c.op → c.s = [] := fun hn => by have := congrArg Cmd.s hk; simpa [keep, hn] using this
 have ht : 84 ∉ flds c.op → c.t = [] := fun hn => by have := congrArg Cmd.t hk; simpa [keep, hn] using this
 have hd : 68 ∉ flds c.op → c.data = [] := fun hn => by have := congrArg Cmd.data hk; simpa [keep, hn] using this
 have hl : 76 ∉ flds c.op → c.list = [] := fun hn => by have := congrArg Cmd.list hk; simpa [keep, hn] using this
 have hn : 75 ∉ flds c.op → c.names = [] := fun hn => by have := congrArg Cmd.names hk; simpa [keep, hn] using this
 have e : bulk c = ([83, 84, 68, 76, 75].map (wB c)).sum := by simp [bulk, wB]; omega
 have := sum_sub (f := wB c) (k := [83, 84, 68, 76, 75]) (l := flds c.op) (by decide) (fun r hr => by
  simp only [List.mem_cons, List.not_mem_nil, or_false] at hr
  by_cases hm : r ∈ flds c.op
  ·exact .inr hm
  ·left
   rcases hr with rfl | rfl | rfl | rfl | rfl
   ·simp [wB, hs hm]
   ·simp [wB, ht hm]
   ·simp [wB, hd hm]
   ·simp [wB, hl hm]
   ·simp [wB, hn hm])
 have h2 := tail_len c (flds c.op)
 unfold lineB
 rw [List.length_append, e]
 omega
theorem known_lt {op : Nat} (h : known op = true) : op < 45 := by simp [known] at h; exact h.2
theorem read_sz {s : Bs} {c : Cmd} (hs : s.length ≤ 1048576) (h : command s = some c) : SzL c ∧ lineR c = (s, 0) ∧ plain c = c := by
 obtain ⟨hk, hl, hp, ho⟩ := line_command h
 refine ⟨⟨by have := known_lt hk; omega, ho, by have := bulk_line hp; rw [hl] at this; omega⟩, ?_, hp⟩
 unfold lineR
 rw [hk, hl]
 simp only [if_true]
 rw [if_neg (by unfold maxS; omega)]
theorem line_read {c : Cmd} (ho : okC c) (h : (lineR c).2 = 0) : cmdE (lineR c).1 = (plain c, 0) := by
 unfold lineR at h ⊢
 cases hk : known c.op
 ·rw [hk] at h; simp at h
 ·rw [hk] at h
  simp only [if_true] at h ⊢
  split at h
  ·cases h
  ·rename_i hl
   rw [if_neg hl]
   unfold cmdE
   rw [if_neg hl, command_line ho hk]
theorem same_zero (H : Heap) : callW Φ zZe [.agg (cC {}), .agg z12] H = some (.bool true, H) := by
 have hz : Szc ({} : Cmd) := ⟨by decide, by decide, by decide, by decide⟩
 have h := kZo {} {} hz hz []
 simp only [decide_true] at h
 exact wZ3 (h0 := []) (h0' := []) zZe.Φ rfl (args := [.agg (cC {}), .agg z12]) («as» := [.agg (cC {}), .agg (cC {})]) rfl rfl h
open Go Go.Ev
theorem lineR_len (c : Cmd) : (lineR c).1.length ≤ 1048576 := by
 unfold lineR
 split
 ·split
  ·simp
  ·rename_i h; unfold maxS at h; show (lineB c).length ≤ _; omega
 ·simp
theorem SzL.szc {c : Cmd} (z : SzL c) : Szc c := z.szp.szc
theorem xZE (c : Cmd) (s : Bs) (z : SzL c) (hs : s.length < 2 ^ 40) (H : Heap) : callW Φ zZk [.agg (cC c), T s] H = some (.bool true, H) := by
 have : ∃ hh, evBodyW (callW Φ) zZk.c [.agg (cC c), T s] [] = some (.bool true, hh) := by
  have hb := zYao
  have hcc : ∀ c, (V.agg (cC c)).cells = cC c := fun c => rfl
  have hall : ∀ c, (cC c).all V.isCell = true := fun c => rfl
  have b0 : evBox [] (cC c) = some (.ptr 0 0, [.cells (cC c)]) := jZU [] _ (hall c)
  have ok : ∀ c H, okCells H (some 12) (some (cC c)) = some (.agg (cC c), H) := fun c H => rfl
  have hbd0 : ∀ H, evBuild H z12 [] = some (.agg z12, H) := fun H => rfl
  have hl1 := kZ5 c z
  have hp1 := jZm c z.szp
  have hcs := xZx s hs
  have hll := lineR_len c
  have hcl := xZx (lineR c).1 (by omega)
  have st : ∀ (X : Heap) (d : Cmd), evStoreV (X ++ [.cells z12]) 12 (.ptr X.length 0) (.agg (cC d)) = some (V.non, X ++ [.cells (cC d)]) := fun X d => by
   unfold evStoreV
   rw [hcc, hall]
   simp only [and_self, vZ1, setRange]
   simp
  have cl : ∀ (X : Heap) (d : Cmd), cellsAt (X ++ [.cells (cC d)]) (.ptr X.length 0) = some (cC d) := fun X d => by simp [cellsAt]
  have key2 : ∀ (env : List V) (X : Heap), env.length = 62 → eget env 1 = T s →
    WK (callW Φ) none (FinV [.tmp 4] (.bool true)) [It.o zZk.r8, It.c (.seq (xS zZk.r9 (.cond (.t 40) (xS zZk.r10 .ret) .skip)) (xS zZk.r11 (.seq (.draw zZk.r12 [[], [0], [1], [2], [2], [3, 4, 2], [2, 5], [6, 2], [7], [7], [9, 7, 7], [8, 10, 10, 7], [7, 11], [12, 11, 0, 1, 2, 3, 4, 5, 6, 7, 8, 9, 10, 11, 12]] [0, 1, 2, 3, 4, 5, 6, 7, 12, 13]) .ret)))] { env := env, marks := [], heap := X } := by
   intro env X he k1
   obtain ⟨d, hd⟩ : ∃ d, d = (cmdE s).1 := ⟨_, rfl⟩
   rw [← hd] at hcs
   have s1 := st X d
   have l1 := cl X d
   by_cases h0 : (cmdE s).2 = 0
   ·have hle : s.length ≤ 1048576 := by
     refine Nat.le_of_not_lt fun h => ?_
     have : cmdE s = ({}, 4) := by unfold cmdE; rw [if_pos (show s.length > maxS from h)]
     rw [this] at h0
     cases h0
    have hcm : command s = some d := by
     unfold cmdE at h0 hd
     rw [if_neg (show ¬ s.length > maxS by unfold maxS; omega)] at h0 hd
     cases hc : command s with
     | none => rw [hc] at h0; cases h0
     | some e => rw [hc] at hd; rw [hd]
    obtain ⟨zd, hlr, hpl⟩ := read_sz hle hcm
    have hl2 := kZ5 d zd
    have hp2 := jZm d zd.szp
    have hsd := kZo d d zd.szc zd.szc
    rw [hlr] at hl2
    rw [hpl] at hp2
    simp only [decide_true] at hsd
    rw [h0] at hcs
    have key3 : ∀ (env : List V), env.length = 62 → eget env 1 = T s → eget env 5 = T s → eget env 10 = .int .i64 0 → eget env 9 = .ptr X.length 0 →
      WK (callW Φ) none (FinV [.tmp 4] (.bool true)) [It.c (.draw zZk.r12 [[], [0], [1], [2], [2], [3, 4, 2], [2, 5], [6, 2], [7], [7], [9, 7, 7], [8, 10, 10, 7], [7, 11], [12, 11, 0, 1, 2, 3, 4, 5, 6, 7, 8, 9, 10, 11, 12]] [0, 1, 2, 3, 4, 5, 6, 7, 12, 13]), It.c .ret] { env := env, marks := [], heap := X ++ [.cells (cC d)] } := by
     intro env he k1 k5 k10 k9
     refine kDrawW zZk.r12.ord ?_
     simp [zZk.r12, List.filterMap_cons, k1, k5, k9, k10, he, l1, ok, hp2, hsd, evPick, T_beq]
     repeat' apply And.intro
     all_goals
      simp only [xZ7, xZ2, List.cons_append, List.nil_append]
      exact xZ6 _ rfl rfl rfl rfl
    simp [zZk.r8, zZk.r9, zZk.r11, k1, he, V.isCell, hcs, evExt, s1, l1, ok, hl2, -FinV]
    exact key3 _ (by simp [he]) (by simp [k1]) (by simp [he]) (by simp [he]) (by simp [he])
   ·have hd0 : d = {} := by
     rw [hd]
     unfold cmdE at h0 ⊢
     split
     ·rfl
     ·rename_i hg
      rw [if_neg hg] at h0
      cases hc : command s with
      | none => rfl
      | some e => rw [hc] at h0; exact absurd rfl h0
    have hz := same_zero
    rw [hd0] at s1 l1 hcs
    have hne : ((cmdE s).2 != 0) = true := by simpa using h0
    simp [zZk.r8, zZk.r9, zZk.r10, k1, he, V.isCell, hcs, evExt, s1, l1, ok, hne, hbd0, hz]
  have key1 : ∀ (env : List V), (lineR c).2 = 0 → env.length = 62 → eget env 1 = T s → eget env 2 = .ptr 0 0 → eget env 7 = .ptr 1 0 → eget env 8 = .int .i64 0 →
    WK (callW Φ) none (FinV [.tmp 4] (.bool true)) [It.c (.draw zZk.r6 [[], [0], [1], [2], [2], [4, 2, 2], [3, 5, 5, 2], [6, 2], [2, 7]] [0, 1, 2, 7, 8]), It.c (.cond (.t 33) (xS zZk.r7 .ret) .skip), It.c (xS zZk.r8 (.seq (xS zZk.r9 (.cond (.t 40) (xS zZk.r10 .ret) .skip)) (xS zZk.r11 (.seq (.draw zZk.r12 [[], [0], [1], [2], [2], [3, 4, 2], [2, 5], [6, 2], [7], [7], [9, 7, 7], [8, 10, 10, 7], [7, 11], [12, 11, 0, 1, 2, 3, 4, 5, 6, 7, 8, 9, 10, 11, 12]] [0, 1, 2, 3, 4, 5, 6, 7, 12, 13]) .ret))))] { env := env, marks := [], heap := [.cells (cC c), .cells (cC (plain c))] } := by
   intro env h0 he k1 k2 k7 k8
   have hsp := kZo (plain c) (plain c) z.plain.szc z.plain.szc
   simp only [decide_true] at hsp
   have l0 : cellsAt [.cells (cC c), .cells (cC (plain c))] (.ptr 0 0) = some (cC c) := rfl
   have l1 : cellsAt [.cells (cC c), .cells (cC (plain c))] (.ptr 1 0) = some (cC (plain c)) := rfl
   refine kDrawW zZk.r6.ord ?_
   simp [zZk.r6, List.filterMap_cons, k1, k2, k7, k8, he, l0, l1, ok, hp1, hsp, evPick, -FinV]
   refine ⟨?_, ?_⟩
   ·simp only [xZ7, xZ2, List.cons_append, List.nil_append]
    exact xZ6 _ rfl rfl rfl rfl
   ·exact key2 _ _ (by simp [he]) (by simp [k1])
  refine wZg (Nat.le_of_ble_eq_true rfl) (fun env he h0 => ?_)
  have g0 := h0 0 (by simp)
  change eget env 0 = .agg (cC c) at g0
  have g1 := h0 1 (by simp)
  change eget env 1 = T s at g1
  clear h0
  simp [zZk.c] at he
  have l0 : cellsAt [.cells (cC c)] (.ptr 0 0) = some (cC c) := rfl
  by_cases h0 : (lineR c).2 = 0
  ·have hr := line_read z.2.1 h0
   rw [hr] at hcl
   have s1 := st [.cells (cC c)] (plain c)
   simp only [List.cons_append, List.nil_append, List.length_cons, List.length_nil] at s1
   rw [h0] at hl1
   simp [zZk.c, zZk.r0, zZk.r1, zZk.r3, zZk.r4, zZk.r5, g0, g1, he, hcc, b0, hb, l0, ok, hl1, hcl, V.isCell, s1, evExt, -FinV]
   exact key1 _ h0 (by simp [he]) (by simp [g1]) (by simp [he]) (by simp [he]) (by simp [he])
  ·have hne : ((lineR c).2 == 0) = false := by simpa using h0
   simp [zZk.c, zZk.r0, zZk.r1, zZk.r3, zZk.r4, g0, g1, he, hcc, b0, hb, l0, ok, hl1, hne, evExt, -FinV]
   exact key2 _ _ (by simp [he]) (by simp [g1])
 obtain ⟨h', hb⟩ := this
 exact qZ7 (h := H) zZk.Φ rfl (args := [.agg (cC c), T s]) rfl hb rfl
end Go.Proofs.Sc
