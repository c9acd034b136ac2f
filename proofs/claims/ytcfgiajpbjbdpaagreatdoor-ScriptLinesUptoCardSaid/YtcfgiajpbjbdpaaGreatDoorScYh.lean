/- The book's command out of a line. Commands as lines, and which lines are commands: the law's walk. No conditions. -/
import Derived.Test.YtcfgiajpbjbdpaaGreatDoorScYg
set_option maxHeartbeats 16000000
set_option maxRecDepth 100000
set_option linter.unusedVariables false
set_option linter.unusedSimpArgs false
set_option linter.unusedSectionVars false
namespace Go.Proofs.Sc
open Go Go.Ev
theorem put_yes {r : UInt8} (h : r ≠ 89) (c d : Cmd) : (put r c d).yes = d.yes := by
 unfold put
 repeat' split
 all_goals first | rfl | exact absurd ‹_› h
def RC (cs : List V) (c : Cmd) : Prop := cs = cC c ∨ (cs = cV c .nils .nils .nils ∧ c.data = [] ∧ c.list = [] ∧ c.names = [])
theorem RC.cells {cs : List V} {c : Cmd} (h : RC cs c) : cs.all V.isCell = true ∧ cs.length = 12 := by
 rcases h with rfl | ⟨rfl, _⟩ <;> exact ⟨rfl, rfl⟩
theorem RC.fz {cs : List V} {c : Cmd} (h : RC cs c) (H : Heap) : Go.Ev.fz 63 H (.agg cs) = some (.agg (cC c), H) := by
 rcases h with rfl | ⟨rfl, h1, h2, h3⟩
 ·have := wZl (h := H) (x := .tup [.agg (cC c)]) rfl
  have h2 : (mapH (Go.Ev.fz 63) H [.agg (cC c)]).map (fun p => (V.tup p.1, p.2)) = some (.tup [.agg (cC c)], H) := this
  simp only [mapH] at h2
  cases hf : Go.Ev.fz 63 H (.agg (cC c)) with
  | none => rw [hf] at h2; cases h2
  | some q =>
   rw [hf] at h2
   simp only [Option.map_some, Option.some.injEq, Prod.mk.injEq, V.tup.injEq, List.cons.injEq, and_true] at h2
   rw [← h2.1, ← h2.2]
 ·have e : cC c = cV c (.arr []) (.arr []) (.arr []) := by unfold cC; rw [h1, h2, h3]; rfl
  rw [e]
  rfl
theorem RC.fz64 {cs : List V} {c : Cmd} (h : RC cs c) (H : Heap) : Go.Ev.fz 64 H (.agg cs) = some (.agg (cC c), H) := by
 rcases h with rfl | ⟨rfl, h1, h2, h3⟩
 ·exact wZl rfl
 ·have e : cC c = cV c (.arr []) (.arr []) (.arr []) := by unfold cC; rw [h1, h2, h3]; rfl
  rw [e]
  rfl
theorem zYau (s : Bs) (hz : s.length < 2 ^ 40) (H : Heap) : callW Φ zZj [T s] H = some (.tup [.agg (cC (cmdE s).1), .int .i64 (cmdE s).2], H) := by
 refine xZ5 zZj.Φ rfl (args := [T s]) rfl ?_
 obtain ⟨P, hP⟩ : ∃ P : V → Heap → Prop, P = fun r h2 => ∃ h3, fz fzDepth h2 r = some (.tup [.agg (cC (cmdE s).1), .int .i64 (cmdE s).2], h3) := ⟨_, rfl⟩
 suffices hgo : ∃ r h', evBodyW (callW Φ) zZj.c [T s] [] = some (r, h') ∧ P r h' by rw [hP] at hgo; exact hgo
 have hPz : ∀ r h2 h3, fz fzDepth h2 r = some (.tup [.agg (cC (cmdE s).1), .int .i64 (cmdE s).2], h3) → P r h2 := fun r h2 h3 hz => by rw [hP]; exact ⟨h3, hz⟩
 have hPn : ∀ r h2, flatN2 r = true → nz2 r = .tup [.agg (cC (cmdE s).1), .int .i64 (cmdE s).2] → P r h2 := fun r h2 h h1 => hPz r h2 h2 (by rw [← h1]; exact wZl h)
 clear hP
 refine xZ4 (Nat.le_of_ble_eq_true rfl) (fun env he h0 => ?_)
 have g0 := h0 0 (by simp)
 change eget env 0 = T s at g0
 clear h0
 simp [zZj.c] at he
 have hcz : (V.agg z12).cells = z12 := rfl
 have hbd0 : ∀ H, evBuild H z12 [] = some (.agg z12, H) := fun H => rfl
 have bad : ∀ (n : Int), cmdE s = ({}, n) → ∀ h, P (.tup [.agg z12, .int .i64 n]) h := fun n hn h => hPz _ _ h (by rw [hn]; rfl)
 have good : ∀ c cs, cmdE s = (c, 0) → RC cs c → ∀ h, P (.tup [.agg cs, .int .i64 0]) h := fun c cs hn hr h => hPz _ _ h (by
  rw [hn]
  show (mapH (Go.Ev.fz 63) h [.agg cs, .int .i64 0]).map (fun p => (V.tup p.1, p.2)) = _
  simp only [mapH, hr.fz]
  rfl)
 by_cases c : 1048576 < s.length
 ·have hb := bad 4 (by unfold cmdE; rw [if_pos (show s.length > maxS from c)])
  have c1 : (1048576 : Int) < (s.length : Int) := by omega
  have s1 : evStoreV [.cells z12] 12 (.ptr 0 0) (.agg z12) = some (V.non, [.cells z12]) := rfl
  have c2 : cellsAt [.cells z12] (.ptr 0 0) = some z12 := rfl
  simp [zZj.c, zZj.r0, zZj.r1, zZj.r2, g0, he, V.isCell, vZm, c, c1, hbd0, s1, c2, ofCells, hb]
 have c1 : ¬ (1048576 : Int) < (s.length : Int) := by omega
 have hE : cmdE s = if cmdB s then (cmdA s, 0) else ({}, 20) := by
  unfold cmdE
  rw [if_neg (show ¬ s.length > maxS from c), command_X]
  cases cmdB s <;> rfl
 have bad20 : cmdB s = false → ∀ h, P (.tup [.agg z12, .int .i64 20]) h := fun hB => bad 20 (by rw [hE, hB]; rfl)
 have badX : cmdX s = none → ∀ h, P (.tup [.agg z12, .int .i64 20]) h := fun hX => bad20 (by unfold cmdB; rw [hX])
 have neB : ∀ (b : UInt8) (c : UInt8) (x : Bool), x = (b == c) → ((b.toNat : Int) != (c.toNat : Int)) = !x := fun b c x hx => by unfold bne; rw [eqB b c x hx]
 have q32 : (((32 : UInt8).toNat : Nat) : Int) = 32 := rfl
 obtain ⟨Wd, hW⟩ : ∃ Wd, Wd = wordOf s := ⟨_, rfl⟩
 have hWl : Wd.length ≤ s.length := by rw [hW]; exact zYaT s
 have hWt : s.take Wd.length = Wd := by rw [hW]; exact xZZ s (· != 32)
 have hWr : ∀ b, s[Wd.length]? = some b → b = 32 := fun b hb => by
  have := zYav s b (p := (· != 32)) (by rw [List.head?_drop]; rw [hW] at hb; exact hb)
  simpa using this
 have hWg : ∀ (i : Nat) b, i < Wd.length → s[i]? = some b → b ≠ 32 := fun i b hi hb => by
  have h1 : Wd[i]? = some b := by rw [← hWt, List.getElem?_take_of_lt hi]; exact hb
  have h2 := zYar s b (p := (· != 32)) (by rw [hW] at h1; exact List.mem_of_getElem? h1)
  simpa using h2
 have hfail : ∀ o : Ob, evStoreV [.cells z12, o] 12 (.ptr 0 0) (.agg z12) = some (V.non, [.cells z12, o]) ∧ cellsAt [.cells z12, o] (.ptr 0 0) = some z12 := fun o => ⟨rfl, rfl⟩
 have hfail1 : evStoreV [.cells z12] 12 (.ptr 0 0) (.agg z12) = some (V.non, [.cells z12]) ∧ cellsAt [.cells z12] (.ptr 0 0) = some z12 := ⟨rfl, rfl⟩
 simp [zZj.c, zZj.r0, zZj.r1, zZj.r3, g0, he, V.isCell, vZm, c, c1]
 obtain ⟨I, hI⟩ : ∃ I : Nat → St → Prop, I = fun m st => ∃ (i : Nat), m = Wd.length - i ∧ i ≤ Wd.length ∧ (eget st.env 0 = T s ∧ eget st.env 2 = .ptr 0 0 ∧ eget st.env 4 = .int .i64 i ∧ st.env.length = 78) ∧ st.marks = [] ∧ st.heap = [.cells z12] := ⟨_, rfl⟩
 refine kLoop I Wd.length (by rw [hI]; exact ⟨0, rfl, by omega, ⟨by simp [g0], by simp [he], by simp [he], by simp [he]⟩, rfl, rfl⟩) ?_
 rintro m ⟨env, mk, Hh⟩ hst
 rw [hI] at hst
 obtain ⟨i, rfl, hi, ⟨k0, k2, k4, hl⟩, hm, hh⟩ := hst
 simp only at k0 k2 k4 hl hm hh
 obtain rfl := hm
 obtain rfl := hh
 simp only [zZj.b6]
 by_cases ci : i < Wd.length
 ·have ci2 : i < s.length := by omega
  have ci2' : (i : Int) < (s.length : Int) := by omega
  obtain ⟨b, hb⟩ : ∃ b, s[i]? = some b := ⟨_, List.getElem?_eq_getElem ci2⟩
  have ix := idx_T (h := [Ob.cells z12]) (k := .i64) (n := (i : Int)) (by omega) (by simpa using hb)
  have q := neB b 32 false (by have := hWg i b ci hb; simpa using this)
  rw [q32] at q
  have wr := wrap64 (n := (i : Int) + 1) (by omega) (by omega)
  simp [zZj.r4, zZj.r5, k0, k4, hl, vZm, ci2, ci2', ix, q, evPick, wr]
  refine ⟨Wd.length - (i + 1), by omega, ?_⟩
  rw [hI]
  exact ⟨i + 1, rfl, by omega, ⟨by simp [k0], by simp [k2], by simp [hl], by simp [hl]⟩, rfl, rfl⟩
 have hie : i = Wd.length := by omega
 have rest : ∀ env : List V, env.length = 78 → eget env 0 = T s → eget env 2 = .ptr 0 0 → eget env 4 = .int .i64 i →
   WK (callW Φ) none (FinX [.cell 2 (some 12), .tmp 3] P) [It.o zZj.r7, It.c (.seq (xS zZj.r8 (.cond (.t 34) (xS zZj.r9 .ret) .skip)) (xS zZj.r10 (xS zZj.r11 (.seq (xS zZj.r12 (.block 2 (.loop zZj.b20))) (.seq (xS zZj.r21 (.cond (.t 75) (xS zZj.r22 .ret) .skip)) (xS zZj.r23 .ret))))))] { env := env, marks := [], heap := [.cells z12] } := by
  intro env hl k0 k2 k4
  have hsl := zYaC (h := [Ob.cells z12]) (l := s) (k := .i64) (b := (i : Int)) (by omega) (by omega)
  rw [Int.toNat_natCast, hie, hWt] at hsl
  rw [← hie] at hsl
  have hfd := kZn Wd [.cells z12]
  obtain ⟨op, hop⟩ : ∃ op, op = find Wd := ⟨_, rfl⟩
  by_cases f0 : find Wd = 0
  ·have hfd' : callW Φ zZN [T Wd] [.cells z12] = some (.tup [.int .u8 0, .bool false], [.cells z12]) := by rw [hfd, f0]; rfl
   have hn := badX (by unfold cmdX; rw [← hW, if_pos f0]) [.cells z12]
   obtain ⟨f1, f2⟩ := hfail1
   simp [zZj.r7, zZj.r8, zZj.r9, k0, k2, k4, hl, hsl, hfd', evExt, hbd0, f1, f2, ofCells, hn]
  obtain ⟨hkn, hwd⟩ := zYas f0
  have hop45 : op < 45 := by rw [hop]; exact known_lt hkn
  have hX : cmdX s = cmdR (flds op) { op := op } (s.drop i) := by unfold cmdX; rw [← hW, if_neg f0, ← hop, hie]
  have hfd' : callW Φ zZN [T Wd] [.cells z12] = some (.tup [.int .u8 op, .bool true], [.cells z12]) := by rw [hfd, hop]; simp [f0]
  have hbd1 : ∀ H, evBuild H z12 [(0, 1, .int .u8 op)] = some (.agg (cV { op := op } .nils .nils .nils), H) := fun H => rfl
  have st1 : evStoreV [.cells z12, .cells z12] 12 (.ptr 1 0) (.agg (cV { op := op } .nils .nils .nils)) = some (V.non, [.cells z12, .cells (cV { op := op } .nils .nils .nils)]) := by
   have hall : (cV { op := op } .nils .nils .nils).all V.isCell = true := rfl
   have hcv : (V.agg (cV { op := op } .nils .nils .nils)).cells = cV { op := op } .nils .nils .nils := rfl
   unfold evStoreV
   rw [hcv, hall]
   simp [evStore, setRange]
  have hfl := fun H => jZf op (by omega) H
  simp [zZj.r7, zZj.r8, zZj.r10, zZj.r11, zZj.r12, k0, k2, k4, hl, V.isCell, hsl, hfd', evExt, hbd1, st1, hfl]
  obtain ⟨fl, hfl⟩ : ∃ fl, fl = flds op := ⟨_, rfl⟩
  have hfok := jZ6 op
  have hfl10 := flds_len op
  rw [← hfl] at hX hfok hfl10 ⊢
  obtain ⟨J, hJ⟩ : ∃ J : Nat → St → Prop, J = fun m st => ∃ (j p : Nat) (d : Cmd) (cs : List V), m = fl.length - j ∧ j ≤ fl.length ∧ p ≤ s.length ∧ (eget st.env 0 = T s ∧ eget st.env 2 = .ptr 0 0 ∧ eget st.env 4 = .int .i64 p ∧ eget st.env 7 = .ptr 1 0 ∧ eget st.env 8 = T fl ∧ eget st.env 9 = .int .i64 j ∧ st.env.length = 78) ∧ st.marks = [] ∧ st.heap = [.cells z12, .cells cs] ∧ RC cs d ∧ okC d ∧ (89 ∈ fl.drop j → d.yes = false) ∧ cmdX s = cmdR (fl.drop j) d (s.drop p) := ⟨_, rfl⟩
  refine kLoop J fl.length (by
   rw [hJ]
   exact ⟨0, i, { op := op }, cV { op := op } .nils .nils .nils, rfl, by omega, by omega, ⟨by simp [k0], by simp [k2], by simp [k4], by simp [hl], by simp [hl], by simp [hl], by simp [hl]⟩, rfl, rfl, .inr ⟨rfl, rfl, rfl, rfl⟩, by unfold okC ok64; simp, fun _ => rfl, hX⟩) ?_
  rintro m ⟨env, mk, Hh⟩ hst
  rw [hJ] at hst
  obtain ⟨j, p, d, cs, rfl, hj, hp, ⟨k0, k2, k4, k7, k8, k9, hl⟩, hm, hh, hrc, hok, hyy, hcx⟩ := hst
  simp only at k0 k2 k4 k7 k8 k9 hl hm hh
  obtain rfl := hm
  obtain rfl := hh
  obtain ⟨hcc1, hcc2⟩ := hrc.cells
  have okc : ∀ H, okCells H (some 12) (some cs) = some (.agg cs, H) := fun H => by
   simp [okCells, hcc2, List.take_of_length_le]
  have clc : cellsAt [.cells z12, .cells cs] (.ptr 1 0) = some cs := rfl
  obtain ⟨f1, f2⟩ := hfail (.cells cs)
  simp only [zZj.b20]
  by_cases cj : j < fl.length
  case neg =>
   have cj' : ¬ (j : Int) < (fl.length : Int) := by omega
   rw [List.drop_eq_nil_of_le (by omega)] at hcx
   by_cases cp : p = s.length
   ·have hA : cmdA s = d := by simp only [cmdA, hcx, cmdR]
    have hB : cmdB s = true := by simp only [cmdB, hcx, cmdR]; rw [List.drop_eq_nil_of_le (by omega)]; rfl
    have hg := good d cs (by rw [hE, hB, hA]; rfl) hrc
    have qp : ((p : Int) != (s.length : Int)) = false := by simp; omega
    have s2 : evStoreV [.cells z12, .cells cs] 12 (.ptr 0 0) (.agg cs) = some (V.non, [.cells cs, .cells cs]) := by
     have hcv : (V.agg cs).cells = cs := rfl
     unfold evStoreV
     rw [hcv, hcc1]
     simp [evStore, setRange, hcc2]
    have l2 : cellsAt [.cells cs, .cells cs] (.ptr 0 0) = some cs := rfl
    have hof : ofCells (some 12) cs = some (.agg cs) := by simp [ofCells, hcc2, List.take_of_length_le]
    simp [zZj.c, zZj.r13, zZj.r21, zZj.r23, k0, k2, k4, k7, k8, k9, hl, vZm, cj, cj', qp, clc, okc, s2, l2, hof, hg]
   ·have hB : cmdB s = false := by
     simp only [cmdB, hcx, cmdR]
     have : s.drop p ≠ [] := fun e => by
      have := congrArg List.length e
      rw [List.length_drop] at this
      simp at this
      omega
     simpa using this
    have hn := bad20 hB [.cells z12, .cells cs]
    have qp : ((p : Int) != (s.length : Int)) = true := by simp; omega
    simp [zZj.c, zZj.r13, zZj.r21, zZj.r22, k0, k2, k4, k7, k8, k9, hl, vZm, cj, cj', qp, hbd0, f1, f2, ofCells, hn]
  have cj' : (j : Int) < (fl.length : Int) := by omega
  obtain ⟨r, hr⟩ : ∃ r, fl[j]? = some r := ⟨_, List.getElem?_eq_getElem cj⟩
  have hdr : fl.drop j = r :: fl.drop (j + 1) := by rw [List.drop_eq_getElem_cons cj]; congr 1; exact (List.getElem?_eq_some_iff.1 hr).2
  have hmem := List.mem_of_getElem? hr
  have hlet := hfok.2 r hmem
  have hnd : (r :: fl.drop (j + 1)).Nodup := by rw [← hdr]; exact hfok.1.sublist (List.drop_sublist _ _)
  rw [hdr] at hcx hyy
  by_cases cp : p < s.length
  case neg =>
   have cp' : (s.length : Int) ≤ (p : Int) := by omega
   have hn := badX (by rw [hcx, show s.drop p = [] from List.drop_eq_nil_of_le (by omega)]; rfl) [.cells z12, .cells cs]
   simp [zZj.c, zZj.r13, zZj.r14, zZj.r15, k0, k2, k4, k7, k8, k9, hl, vZm, cj, cj', cp', evPick, hbd0, f1, f2, ofCells, hn]
  have cp' : ¬ (s.length : Int) ≤ (p : Int) := by omega
  obtain ⟨b, hb⟩ : ∃ b, s[p]? = some b := ⟨_, List.getElem?_eq_getElem cp⟩
  have hdp : s.drop p = b :: s.drop (p + 1) := by rw [List.drop_eq_getElem_cons cp]; congr 1; exact (List.getElem?_eq_some_iff.1 hb).2
  rw [hdp] at hcx
  have ixp := fun h : Heap => idx_T (h := h) (k := .i64) (n := (p : Int)) (by omega) (by simpa using hb)
  by_cases c32 : b = 32
  case neg =>
   have q := neB b 32 false (by simpa using c32)
   rw [q32] at q
   have hn := badX (by rw [hcx]; simp only [cmdR]; rw [if_neg c32]) [.cells z12, .cells cs]
   simp [zZj.c, zZj.r13, zZj.r14, zZj.r15, k0, k2, k4, k7, k8, k9, hl, vZm, cj, cj', cp', ixp, q, evPick, hbd0, f1, f2, ofCells, hn]
  have q := neB b 32 true (by simpa using c32)
  rw [q32] at q
  have hcx2 : cmdX s = (match rd r d (s.drop (p + 1)) with | some (c', s'') => cmdR (fl.drop (j + 1)) c' s'' | none => none) := by rw [hcx, c32]; rfl
  have ixj := fun h : Heap => idx_T (h := h) (k := .i64) (n := (j : Int)) (by omega) (by simpa using hr)
  have wp := wrap64 (n := (p : Int) + 1) (by omega) (by omega)
  have wj := wrap64 (n := (j : Int) + 1) (by omega) (by omega)
  obtain ⟨x, hx1, hx2⟩ := zYaK s (p + 1) r d hz (by omega) hlet (fun e => hyy (by rw [e]; simp)) []
  have ep : ((p + 1 : Nat) : Int) = (p : Int) + 1 := by omega
  rw [ep] at hx1
  have hcall : ∀ H, callW Φ zZh [T s, .int .i64 ((p : Int) + 1), .int .u8 r.toNat, .agg cs] H = some (x, H) := fun H =>
   wZ3 (h0 := []) (h0' := []) zZh.Φ rfl (args := [T s, .int .i64 ((p : Int) + 1), .int .u8 r.toNat, .agg cs]) («as» := [T s, .int .i64 ((p : Int) + 1), .int .u8 r.toNat, .agg (cC d)]) rfl (by
    have e := hrc.fz64 H
    show mapH (Go.Ev.fz 64) H _ = _
    simp only [mapH]
    rw [show Go.Ev.fz 64 H (T s) = some (T s, H) from rfl]
    simp only
    rw [show Go.Ev.fz 64 H (.int .i64 ((p : Int) + 1)) = some (.int .i64 ((p : Int) + 1), H) from rfl]
    simp only
    rw [show Go.Ev.fz 64 H (.int .u8 (r.toNat : Int)) = some (.int .u8 (r.toNat : Int), H) from rfl]
    simp only [e]) hx1
  have stc : ∀ e : Cmd, evStoreV [.cells z12, .cells cs] 12 (.ptr 1 0) (.agg (cC e)) = some (V.non, [.cells z12, .cells (cC e)]) := fun e => by
   have hcv : (V.agg (cC e)).cells = cC e := rfl
   have hall : (cC e).all V.isCell = true := rfl
   unfold evStoreV
   rw [hcv, hall]
   simp [evStore, setRange, hcc2]
  simp [zZj.r13, zZj.r14, k0, k2, k4, k7, k8, k9, hl, vZm, cj, cj', cp', ixp, q, evPick]
  refine kDraw1 zZj.r16.ord ?_
  cases hrd : rd r d (s.drop (p + 1)) with
  | none =>
   rw [hrd] at hx2 hcx2
   obtain ⟨c', e, rfl⟩ := hx2
   obtain ⟨f1, f2⟩ := hfail (.cells (cC c'))
   have hn := badX hcx2 [.cells z12, .cells (cC c')]
   simp [zZj.c, zZj.r16, zZj.r17, zZj.r18, k0, k2, k4, k7, k8, k9, hl, wp, ixj, clc, okc, hcall, evExt, stc, hbd0, f1, f2, ofCells, hn]
  | some q =>
   obtain ⟨c', s2⟩ := q
   rw [hrd] at hx2 hcx2
   obtain rfl := hx2
   obtain ⟨hb1, hb2, hb3⟩ := rd_back hrd hok
   obtain ⟨d1, d2, d3⟩ := suf_drop hb1 (by omega)
   obtain ⟨e, hee⟩ : ∃ e, e = s.length - s2.length := ⟨_, rfl⟩
   rw [← hee] at hcall d1
   simp [zZj.r16, zZj.r17, zZj.r19, k0, k2, k4, k7, k8, k9, hl, wp, ixj, clc, okc, hcall, evExt, stc, wj]
   refine ⟨fl.length - (j + 1), by omega, ?_⟩
   rw [hJ]
   refine ⟨j + 1, e, c', cC c', rfl, by omega, by omega, ⟨by simp [k0], by simp [k2], by simp [hl], by simp [k7], by simp [k8], by simp [hl], by simp [hl]⟩, rfl, rfl, .inl rfl, hb3, fun h89 => ?_, ?_⟩
   ·have hr89 : r ≠ 89 := fun e => by rw [e] at hnd; exact (List.nodup_cons.1 hnd).1 h89
    rw [hb2, put_yes hr89]
    exact hyy (by simp [h89])
   ·rw [hcx2, d1]
 by_cases ci2 : i < s.length
 ·have ci2' : (i : Int) < (s.length : Int) := by omega
  obtain ⟨b, hb⟩ : ∃ b, s[i]? = some b := ⟨_, List.getElem?_eq_getElem ci2⟩
  have ix := idx_T (h := [Ob.cells z12]) (k := .i64) (n := (i : Int)) (by omega) (by simpa using hb)
  have q := neB b 32 true (by have := hWr b (by rw [← hie]; exact hb); simpa using this)
  rw [q32] at q
  simp [zZj.r4, k0, k4, hl, vZm, ci2, ci2', ix, q, evPick]
  exact rest _ (by simp [hl]) (by simp [k0]) (by simp [k2]) (by simp [k4])
 ·have ci2' : ¬ (i : Int) < (s.length : Int) := by omega
  simp [zZj.r4, k0, k4, hl, vZm, ci2, ci2', evPick]
  exact rest _ (by simp [hl]) (by simp [k0]) (by simp [k2]) (by simp [k4])
open Go Go.Ev
theorem cmdE_sz (s : Bs) : Szc (cmdE s).1 := by
 have hz : Szc ({} : Cmd) := ⟨by decide, by decide, by decide, by decide⟩
 unfold cmdE
 split
 ·exact hz
 ·rename_i h
  cases hc : command s with
  | none => exact hz
  | some d => exact (read_sz (by unfold maxS at h; omega) hc).1.szc
theorem zYaf (c : Cmd) (s : Bs) (z : SzL c) (hs : s.length < 2 ^ 40) (H : Heap) : callW Φ zZU [.agg (cC c), T s] H = some (.bool true, H) := by
 have : ∃ hh, evBodyW (callW Φ) zZU.c [.agg (cC c), T s] [] = some (.bool true, hh) := by
  have hb := zYao
  have hcc : ∀ c, (V.agg (cC c)).cells = cC c := fun c => rfl
  have hall : ∀ c, (cC c).all V.isCell = true := fun c => rfl
  have b0 : evBox [] (cC c) = some (.ptr 0 0, [.cells (cC c)]) := jZU [] _ (hall c)
  have ok : ∀ c H, okCells H (some 12) (some (cC c)) = some (.agg (cC c), H) := fun c H => rfl
  have hl1 := kZ5 c z
  have hl2 := zYaJ c z
  have hc1 := xZx s hs
  have hc2 := zYau s hs
  obtain ⟨d, hd⟩ : ∃ d, d = (cmdE s).1 := ⟨_, rfl⟩
  obtain ⟨n, hn⟩ : ∃ n, n = (cmdE s).2 := ⟨_, rfl⟩
  rw [← hd, ← hn] at hc1 hc2
  obtain ⟨a, ha⟩ : ∃ a, a = (lineR c).1 := ⟨_, rfl⟩
  obtain ⟨w, hw⟩ : ∃ w, w = (lineR c).2 := ⟨_, rfl⟩
  rw [← ha, ← hw] at hl1 hl2
  have zd : Szc d := by rw [hd]; exact cmdE_sz s
  have hsd := kZo d d zd zd
  simp only [decide_true] at hsd
  have c0 : ∀ X : Heap, cellsAt (.cells (cC c) :: X) (.ptr 0 0) = some (cC c) := fun X => rfl
  have s1 : evStoreV [.cells (cC c), .cells z12] 12 (.ptr 1 0) (.agg (cC d)) = some (V.non, [.cells (cC c), .cells (cC d)]) := by
   unfold evStoreV
   rw [hcc, hall]
   simp [evStore, setRange]
  have s2 : evStoreV [.cells (cC c), .cells (cC d), .cells z12] 12 (.ptr 2 0) (.agg (cC d)) = some (V.non, [.cells (cC c), .cells (cC d), .cells (cC d)]) := by
   unfold evStoreV
   rw [hcc, hall]
   simp [evStore, setRange]
  have c1 : ∀ o : Ob, cellsAt [.cells (cC c), .cells (cC d), o] (.ptr 1 0) = some (cC d) := fun o => rfl
  have c2 : cellsAt [.cells (cC c), .cells (cC d), .cells (cC d)] (.ptr 2 0) = some (cC d) := rfl
  refine wZg (Nat.le_of_ble_eq_true rfl) (fun env he h0 => ?_)
  have g0 := h0 0 (by simp)
  change eget env 0 = .agg (cC c) at g0
  have g1 := h0 1 (by simp)
  change eget env 1 = T s at g1
  clear h0
  simp [zZU.c] at he
  simp [zZU.c, zZU.r0, zZU.r1, zZU.r2, zZU.r3, zZU.r4, zZU.r5, g0, g1, he, V.isCell, hcc, b0, hb, c0, c1, c2, ok, hl1, hl2, hc1, hc2, s1, s2, hsd, evExt, evPick, T_beq]
 obtain ⟨h', hb⟩ := this
 exact qZ7 (h := H) zZU.Φ rfl (args := [.agg (cC c), T s]) rfl hb rfl
end Go.Proofs.Sc
