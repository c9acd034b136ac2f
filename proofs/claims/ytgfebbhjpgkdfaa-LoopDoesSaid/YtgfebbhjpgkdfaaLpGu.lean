/- LoopDoes: whether a loop stands as the book says. LoopDoes: like. No conditions. -/
import Derived.Test.YtgfebbhjpgkdfaaLpGs
namespace Go.Proofs.Lp
open Go Go.Ev
set_option linter.unusedVariables false
set_option linter.unusedSimpArgs false

/-- What like looks at. -/
structure Alike (L s : LS) : Prop where
  sum : sumq L 8 = sumq s 8
  mi : (L.q 0).length = (s.q 0).length
  tm : L.tm.length = s.tm.length
  due : match soon s.tm s.tm.length with
    | none => dueV L = (0, false)
    | some k => ∃ t, s.tm[k]? = some t ∧ dueV L = (t.due, true)
  clock : L.clock = s.clock
  given : L.given = s.given

abbrev likD : Cc := fst (snd (snd (snd (snd (snd (snd law27_like.c.body))))))

theorem WO_of_WK {call : CallF} {l : List Cp} {s : St} {R : St → Prop} (h : WK call none (fun e s' => e = .normal ∧ R s') [.o l] s) : ∃ s1, WO call l s (fun r => r = s1) ∧ R s1 := by
  simp only [WK] at h
  obtain ⟨s1, h1, _, h2⟩ := h
  exact ⟨s1, ⟨s1, h1, rfl⟩, h2⟩

set_option maxRecDepth 100000 in
theorem like_orders : orders2 law27_like.r7 [[], [], [1], [0, 2], [3, 2], [4], [4], [6, 4], [7, 4], [5, 8, 4], [4, 9], [10, 4], [11], [11], [13, 11], [14, 11], [12, 15, 11], [11, 16], [17, 11], [18], [18], [19, 20, 18], [18, 21], [22, 18], [23], [23], [25, 23], [24, 26, 23], [23, 27], [28, 23], [29], [30, 29, 29], [29], [32, 29], [31, 33, 29], [29, 34], [35, 31], [36], [37, 36, 36], [36], [39, 36], [38, 40, 36], [36, 41], [42, 38, 0, 1, 2, 3, 4, 5, 6, 7, 8, 9, 10, 11, 12, 13, 14, 15, 16, 17, 18, 19, 20, 21, 22, 23, 24, 25, 26, 27, 28, 29, 30, 31, 32, 33, 34, 35, 36, 37, 38, 39, 40, 41, 42]] law27_like.r7.length (List.replicate law27_like.r7.length false) = some ([[32, 31, 33], [32, 33, 31]].flatMap fun a => [[39, 38, 40], [39, 40, 38]].map fun b => [0, 1, 2, 3, 4, 5, 6, 7, 8, 9, 10, 11, 12, 13, 14, 15, 16, 17, 18, 19, 20, 21, 22, 23, 24, 25, 26, 27, 28, 29, 30] ++ a ++ [34, 35, 36, 37] ++ b ++ [41, 42, 43]) := by
  rw [law27_like.r7.ord]
  rfl

set_option maxHeartbeats 16000000 in
set_option maxRecDepth 8000 in
theorem like_pre {H H2 : Heap} {l b : Nat} {a m t d : Int} {is : Bool} {i : Int} {F : List V} {vM vR : V} (hF : F.length = 6) (z0 : cellsAt H (.ptr b 0) = some F)
    (ht : callW Φ ref27_Tasks [.agg F] H = some (.int .i64 a, H2)) (z3 : ∃ z, cellsAt H2 (.ptr b 3) = some (vM :: z)) (z5 : cellsAt H2 (.ptr b 5) = some [vR])
    (hm : evLen H2 .l vM = some (.int .i64 m, H2)) (hr : evLen H2 .l vR = some (.int .i64 t, H2)) (his : is = decide (i ≥ 0))
    {env : List V} (he : env.length = 76) (g0 : eget env 0 = .ptr l 0) (g3 : eget env 3 = .ptr b 0) (g5 : eget env 5 = .int .i64 a) (g6 : eget env 6 = .int .i64 m) (g7 : eget env 7 = .int .i64 t) (g8 : eget env 8 = .int .i64 d) (g9 : eget env 9 = .bool is) (g10 : eget env 10 = .int .i64 i) (g11 : eget env 11 = .int .i64 d) :
    ∃ s1, WO (callW Φ) (List.filterMap (law27_like.r7[·]?) [0, 1, 2, 3, 4, 5, 6, 7, 8, 9, 10, 11, 12, 13, 14, 15, 16, 17, 18, 19, 20, 21, 22, 23, 24, 25, 26, 27, 28, 29, 30]) { env := env, marks := [], heap := H } (fun r => r = s1) ∧ s1.env.length = 76 ∧ eget s1.env 0 = .ptr l 0 ∧ eget s1.env 3 = .ptr b 0 ∧ eget s1.env 62 = .bool true ∧ eget s1.env 63 = .ptr l 0 ∧ s1.marks = [] ∧ s1.heap = H2 := by
  obtain ⟨y3, z3⟩ := z3
  have hFt : List.take 6 F = F := by rw [← hF]; exact List.take_length
  have hq : evEqc H2 false (.leaf .b) (.bool is) (.bool is) = some (.bool true, H2) := by
    simp [evEqc, eqdV, cellEq, okV, fV_eq]
  have hge : binV .geq (.int .i64 i) (.int .i64 0) = some (.bool is) := by rw [his]; rfl
  refine WO_of_WK (R := fun s1 => s1.env.length = 76 ∧ eget s1.env 0 = .ptr l 0 ∧ eget s1.env 3 = .ptr b 0 ∧ eget s1.env 62 = .bool true ∧ eget s1.env 63 = .ptr l 0 ∧ s1.marks = [] ∧ s1.heap = H2) ?_
  simp (config := { maxSteps := 5000000 }) [law27_like.r7, List.filterMap_cons, g0, g3, g5, g6, g7, g8, g9, g10, g11, he, okV, fV_eq, faddr_ptr, evPick, z0, z3, z5, ht, hm, hr, hge, hq, hF, hFt, ofCells]

set_option maxHeartbeats 16000000 in
set_option maxRecDepth 8000 in
theorem like_mid {H2 : Heap} {l b : Nat} {ck : Int} (z1 : ∃ z, cellsAt H2 (.ptr b 1) = some (.int .i64 ck :: z)) (hn : callW Φ loop_Loop_Now [.ptr l 0] H2 = some (.int .i64 ck, H2))
    {env : List V} (he : env.length = 76) (g3 : eget env 3 = .ptr b 0) (g62 : eget env 62 = .bool true) (g63 : eget env 63 = .ptr l 0) :
    ∃ s1, (∀ a ∈ [[32, 31, 33], [32, 33, 31]], WO (callW Φ) (List.filterMap (law27_like.r7[·]?) a) { env := env, marks := [], heap := H2 } (fun r => r = s1)) ∧ s1 = { env := puts env [(64, .int .i64 ck), (65, .ptr b 1), (66, .int .i64 ck)], marks := [], heap := H2 } := by
  obtain ⟨y1, z1⟩ := z1
  refine ⟨_, ?_, rfl⟩
  simp only [List.forall_mem_cons]
  refine ⟨?_, ?_, fun _ h => by cases h⟩
  all_goals
    simp [law27_like.r7, List.filterMap_cons, g3, g62, g63, he, okV, fV_eq, faddr_ptr, z1, hn, ofCells]
    try simp only [set_puts, puts_puts, List.cons_append, List.nil_append]
    try exact puts_ext _ rfl rfl rfl rfl

set_option maxHeartbeats 16000000 in
set_option maxRecDepth 8000 in
theorem like_seg {H2 : Heap} {l b : Nat} {ck : Int} {env : List V} (he : env.length = 76) (g0 : eget env 0 = .ptr l 0) (g3 : eget env 3 = .ptr b 0) (g62 : eget env 62 = .bool true) (g64 : eget env 64 = .int .i64 ck) (g66 : eget env 66 = .int .i64 ck) :
    ∃ s1, WO (callW Φ) (List.filterMap (law27_like.r7[·]?) [34, 35, 36, 37]) { env := env, marks := [], heap := H2 } (fun r => r = s1) ∧ s1.env.length = 76 ∧ eget s1.env 3 = .ptr b 0 ∧ eget s1.env 69 = .bool true ∧ eget s1.env 70 = .ptr l 0 ∧ s1.marks = [] ∧ s1.heap = H2 := by
  refine WO_of_WK (R := fun s1 => s1.env.length = 76 ∧ eget s1.env 3 = .ptr b 0 ∧ eget s1.env 69 = .bool true ∧ eget s1.env 70 = .ptr l 0 ∧ s1.marks = [] ∧ s1.heap = H2) ?_
  simp [law27_like.r7, List.filterMap_cons, g0, g3, g62, g64, g66, he, okV, fV_eq, evPick]

set_option maxHeartbeats 16000000 in
set_option maxRecDepth 8000 in
theorem like_mid2 {H2 : Heap} {l b : Nat} {g : Int} (z2 : ∃ z, cellsAt H2 (.ptr b 2) = some (.int .i64 g :: z)) (hn : callW Φ loop_Loop_Given [.ptr l 0] H2 = some (.int .i64 g, H2))
    {env : List V} (he : env.length = 76) (g3 : eget env 3 = .ptr b 0) (g69 : eget env 69 = .bool true) (g70 : eget env 70 = .ptr l 0) :
    ∃ s1, (∀ a ∈ [[39, 38, 40], [39, 40, 38]], WO (callW Φ) (List.filterMap (law27_like.r7[·]?) a) { env := env, marks := [], heap := H2 } (fun r => r = s1)) ∧ s1 = { env := puts env [(71, .int .i64 g), (72, .ptr b 2), (73, .int .i64 g)], marks := [], heap := H2 } := by
  obtain ⟨y1, z2⟩ := z2
  refine ⟨_, ?_, rfl⟩
  simp only [List.forall_mem_cons]
  refine ⟨?_, ?_, fun _ h => by cases h⟩
  all_goals
    simp [law27_like.r7, List.filterMap_cons, g3, g69, g70, he, okV, fV_eq, faddr_ptr, z2, hn, ofCells]
    try simp only [set_puts, puts_puts, List.cons_append, List.nil_append]
    try exact puts_ext _ rfl rfl rfl rfl

set_option maxHeartbeats 16000000 in
set_option maxRecDepth 8000 in
theorem like_suf {H2 : Heap} {g : Int} {env : List V} (he : env.length = 76) (g69 : eget env 69 = .bool true) (g71 : eget env 71 = .int .i64 g) (g73 : eget env 73 = .int .i64 g) :
    ∃ s1, WO (callW Φ) (List.filterMap (law27_like.r7[·]?) [41, 42, 43]) { env := env, marks := [], heap := H2 } (fun r => r = s1) ∧ s1.env.length = 76 ∧ eget s1.env 4 = .bool true ∧ s1.marks = [] ∧ s1.heap = H2 := by
  refine WO_of_WK (R := fun s1 => s1.env.length = 76 ∧ eget s1.env 4 = .bool true ∧ s1.marks = [] ∧ s1.heap = H2) ?_
  simp [law27_like.r7, List.filterMap_cons, g69, g71, g73, he, okV, fV_eq, evPick]

set_option maxHeartbeats 16000000 in
set_option maxRecDepth 8000 in
theorem like_end {P : V → Heap → Prop} {H H2 : Heap} {l b : Nat} {a m t d ck g : Int} {is : Bool} {i : Int} {F : List V} {vM vR : V} (hF : F.length = 6) (z0 : cellsAt H (.ptr b 0) = some F)
    (ht : callW Φ ref27_Tasks [.agg F] H = some (.int .i64 a, H2)) (z1 : ∃ z, cellsAt H2 (.ptr b 1) = some (.int .i64 ck :: z)) (z2 : ∃ z, cellsAt H2 (.ptr b 2) = some (.int .i64 g :: z)) (z3 : ∃ z, cellsAt H2 (.ptr b 3) = some (vM :: z)) (z5 : cellsAt H2 (.ptr b 5) = some [vR])
    (hm : evLen H2 .l vM = some (.int .i64 m, H2)) (hr : evLen H2 .l vR = some (.int .i64 t, H2)) (hn : callW Φ loop_Loop_Now [.ptr l 0] H2 = some (.int .i64 ck, H2)) (hg : callW Φ loop_Loop_Given [.ptr l 0] H2 = some (.int .i64 g, H2)) (his : is = decide (i ≥ 0))
    (hP : P (.bool true) H2)
    {env : List V} (he : env.length = 76) (g0 : eget env 0 = .ptr l 0) (g3 : eget env 3 = .ptr b 0) (g5 : eget env 5 = .int .i64 a) (g6 : eget env 6 = .int .i64 m) (g7 : eget env 7 = .int .i64 t) (g8 : eget env 8 = .int .i64 d) (g9 : eget env 9 = .bool is) (g10 : eget env 10 = .int .i64 i) (g11 : eget env 11 = .int .i64 d) :
    WK (callW Φ) none (FinX [.tmp 4] P) [.c likD, .c .ret] { env := env, marks := [], heap := H } := by
  obtain ⟨s1, o1, l1, a10, a13, a162, a163, m1, h1⟩ := like_pre hF z0 ht z3 z5 hm hr his he g0 g3 g5 g6 g7 g8 g9 g10 g11
  obtain ⟨e1, mk1, H1⟩ := s1
  simp only at l1 a10 a13 a162 a163 m1 h1
  obtain rfl := m1
  obtain rfl := h1
  obtain ⟨s2, o2, hs2⟩ := like_mid z1 hn l1 a13 a162 a163
  obtain ⟨e2, he2⟩ : ∃ e2, e2 = puts e1 [(64, .int .i64 ck), (65, .ptr b 1), (66, .int .i64 ck)] := ⟨_, rfl⟩
  rw [← he2] at hs2
  obtain ⟨s3, o3, l3, a33, a369, a370, m3, h3⟩ := like_seg (H2 := H1) (l := l) (b := b) (ck := ck) (env := e2) (by rw [he2]; simp [puts, l1]) (by rw [he2]; simp [puts, a10]) (by rw [he2]; simp [puts, a13]) (by rw [he2]; simp [puts, a162]) (by rw [he2]; simp [puts, l1]) (by rw [he2]; simp [puts, l1])
  rw [← hs2] at o3
  obtain ⟨e3, mk3, H3⟩ := s3
  simp only at l3 a33 a369 a370 m3 h3
  obtain rfl := m3
  obtain rfl := h3
  obtain ⟨s4, o4, hs4⟩ := like_mid2 z2 hg l3 a33 a369 a370
  obtain ⟨e4, he4⟩ : ∃ e4, e4 = puts e3 [(71, .int .i64 g), (72, .ptr b 2), (73, .int .i64 g)] := ⟨_, rfl⟩
  rw [← he4] at hs4
  obtain ⟨s5, o5, l5, a54, m5, h5⟩ := like_suf (H2 := H3) (g := g) (env := e4) (by rw [he4]; simp [puts, l3]) (by rw [he4]; simp [puts, a369]) (by rw [he4]; simp [puts, l3]) (by rw [he4]; simp [puts, l3])
  rw [← hs4] at o5
  simp only [likD, fst, snd, law27_like.c]
  refine kDraw3 (R := s5) like_orders (by simp) (fun lst hl => ?_) ?_
  · obtain ⟨x1, hx1, hl⟩ := List.mem_flatMap.1 hl
    obtain ⟨x2, hx2, rfl⟩ := List.mem_map.1 hl
    simp only [List.filterMap_append]
    exact WO_app (WO_app (WO_app (WO_app (WO_eq o1 (WO_eq (o2 x1 hx1) (WO_eq o3 (WO_eq (o4 x2 hx2) o5)))))))
  · obtain ⟨e5, mk5, H5⟩ := s5
    simp only at l5 a54 m5 h5
    obtain rfl := m5
    obtain rfl := h5
    simp [a54, l5, hP]
end Go.Proofs.Lp

namespace Go.Proofs.Lp
open Go Go.Ev
set_option linter.unusedVariables false
set_option linter.unusedSimpArgs false

set_option maxHeartbeats 16000000 in
set_option maxRecDepth 8000 in
theorem like_spec {h : Heap} {l : Nat} {L s : LS} {f : Nat → Option Nat} (hr : Rep h l L f) (ht : tot L < 2 ^ 40) (hts : tot s < 2 ^ 40) (hl : Alike L s) :
    ∃ e, callW Φ law27_like [.ptr l 0, .agg (cellsF s)] h = some (.bool true, h ++ e) := by
  obtain ⟨P, hP⟩ : ∃ P : V → Heap → Prop, P = fun x h' => x = .bool true ∧ ∃ e, h' = h ++ e := ⟨_, rfl⟩
  suffices hgo : ∃ x h', callW Φ law27_like [.ptr l 0, .agg (cellsF s)] h = some (x, h') ∧ P x h' by
    obtain ⟨x, h', h1, h2⟩ := hgo
    rw [hP] at h2
    obtain ⟨rfl, e, rfl⟩ := h2
    exact ⟨e, h1⟩
  obtain ⟨b, hb⟩ : ∃ b, b = h.length := ⟨_, rfl⟩
  obtain ⟨H, hH⟩ : ∃ H : Heap, H = h ++ [Ob.cells (cellsF s)] := ⟨_, rfl⟩
  have hbx : evBox h (cellsF s) = some (.ptr b 0, H) := by rw [hH, hb]; simp [evBox, cellsF, V.isCell]
  have kb : H[b]? = some (.cells (cellsF s)) := by rw [hH, hb]; simp
  have rH : Rep H l L f := by
    obtain ⟨v, hv⟩ := hr
    rw [hH]
    exact ⟨v, hv.ext _⟩
  have cw := waiting_spec rH ht
  have cd := due_spec rH
  obtain ⟨E, cs⟩ := soonest_spec (rd_arr H s) hts (.bool s.closed) (.int .i64 s.clock) (.int .i64 s.given) ⟨rfl, rfl, rfl⟩
  obtain ⟨H2, hH2⟩ : ∃ H2, H2 = H ++ E := ⟨_, rfl⟩
  have ctk := tasks_spec (rd_arr H2 s) hts (.bool s.closed) (.int .i64 s.clock) (.int .i64 s.given) ⟨rfl, rfl, rfl⟩
  obtain ⟨H3, hH3⟩ : ∃ H3, H3 = H2 ++ [Ob.cells (cellsF s)] := ⟨_, rfl⟩
  have K2 : Kc H H2 := by rw [hH2]; exact .ext _ _
  have K3 : Kc H2 H3 := by rw [hH3]; exact .ext _ _
  have r3 : Rep H3 l L f := by
    obtain ⟨v, hv⟩ := rH
    rw [hH3, hH2]
    exact ⟨v, (hv.ext _).ext _⟩
  have cn := now_spec r3
  have cg := given_spec r3
  have kb2 := K2 _ _ kb
  have kb3 := K3 _ _ kb2
  have z0 := pt_at kb 0
  have y0 := pt_at kb2 0
  have y5 := pt_at kb2 5
  have x1 := pt_at kb3 1
  have x2 := pt_at kb3 2
  have x3 := pt_at kb3 3
  have x5 := pt_at kb3 5
  have hm := (rd_arr H3 s).m H3
  have hrr := (rd_arr H3 s).r H3
  have hPT : P (.bool true) H3 := by
    rw [hP]
    exact ⟨rfl, [Ob.cells (cellsF s)] ++ E ++ [Ob.cells (cellsF s)], by rw [hH3, hH2, hH]; simp⟩
  rw [hl.sum, hl.mi, hl.tm] at cw
  rw [hl.clock] at cn
  rw [hl.given] at cg
  have hc0 : (V.agg (cellsF s)).cells = cellsF s := rfl
  simp only [cellsF, List.drop_zero, List.drop_succ_cons] at x1 x2 x3 x5 y5
  have hcs : callW Φ ref27_Soonest [.agg (cellsF s)] H = some (.int .i64 (soonI (soon s.tm s.tm.length)), H2) := by rw [hH2]; exact cs
  have hct : callW Φ ref27_Tasks [.agg (cellsF s)] H2 = some (.int .i64 (sumq s 8 : Nat), H3) := by rw [hH3]; exact ctk
  obtain ⟨F, hF⟩ : ∃ F, F = cellsF s := ⟨_, rfl⟩
  have hFl : F.length = 6 := by rw [hF]; rfl
  have hFt : List.take 6 F = F := by rw [← hFl]; exact List.take_length
  rw [← hF] at hbx z0 y0 hcs hct hc0
  simp only [List.drop_zero] at z0 y0
  have nd := fun (d : Int) (is : Bool) (i : Int) his (e : List V) he g0 g3 g5 g6 g7 g8 g9 g10 g11 => like_end (P := P) (l := l) (d := d) (is := is) (i := i) hFl y0 hct ⟨_, x1⟩ ⟨_, x2⟩ ⟨_, x3⟩ x5 hm hrr cn cg his hPT (env := e) he g0 g3 g5 g6 g7 g8 g9 g10 g11
  refine call_x law27_like.Φ rfl (Nat.le_of_ble_eq_true rfl) (fun env he g => ?_)
  have g0 := g 0 (by simp)
  have g1 := g 1 (by simp)
  change eget env 0 = .ptr l 0 at g0
  change eget env 1 = .agg (cellsF s) at g1
  clear g
  rw [← hF] at g1
  simp [law27_like.c] at he
  have hdue := hl.due
  cases hso : soon s.tm s.tm.length with
  | none =>
    rw [hso] at hdue hcs
    simp only at hdue
    rw [hdue] at cd
    simp only [soonI] at hcs
    have nd1 := nd 0 false (-1) (by decide)
    simp only [likD, fst, snd, law27_like.c] at nd1 ⊢
    simp (config := { maxSteps := 5000000 }) [law27_like.r0, law27_like.r1, law27_like.r2, law27_like.r3, law27_like.r4, law27_like.r5, g0, g1, he, okV, fV_eq, hc0, hbx, cw, cd, evExt, z0, hFl, hFt, hcs, ofCells]
    refine nd1 _ ?_ ?_ ?_ ?_ ?_ ?_ ?_ ?_ ?_ ?_ <;> simp [he, g0]
  | some k =>
    rw [hso] at hdue hcs
    simp only at hdue
    obtain ⟨t, htk, hd2⟩ := hdue
    rw [hd2] at cd
    simp only [soonI] at hcs
    have hge : (0 : Int) ≤ (k : Int) := by omega
    obtain ⟨p, a1, a2, p0, a3, a4⟩ := (rd_arr H2 s).ri [] k t htk
    rw [List.append_nil] at a1 a4
    simp only [cR] at a4
    have nd1 := nd t.due true k (by simp)
    simp only [likD, fst, snd, law27_like.c] at nd1 ⊢
    simp (config := { maxSteps := 5000000 }) [law27_like.r0, law27_like.r1, law27_like.r2, law27_like.r3, law27_like.r4, law27_like.r5, law27_like.r6, g0, g1, he, okV, fV_eq, hc0, hbx, cw, cd, evExt, z0, hFl, hFt, hcs, hge, faddr_ptr, y5, a1, a3, a4, ofCells]
    refine nd1 _ ?_ ?_ ?_ ?_ ?_ ?_ ?_ ?_ ?_ ?_ <;> simp [he, g0]
end Go.Proofs.Lp
