/- slices.Insert of one timer: what the evaluator's word for it says is what the machine does. No conditions. -/
import Derived.Test.YtgfebbhjpgkdfaaChecked
import Derived.Test.YtgfebbhjpgkdfaaE06
import Derived.Lib.Overlaps
namespace Go.Proofs.Lp
open Go Go.Ev Go.RowKit
set_option linter.unusedVariables false
set_option linter.unusedSimpArgs false

def primIns : Cf := ⟨3, [.tmp 0], .region [⟨some 0, .ins 3 24 (.t 0) (.t 1) (.t 2), none⟩], false⟩

theorem mixed : Try.prog.follows .mixedOrders = true := by kernel_rfl
theorem elem87 : elemT Try.prog 87 = some (3, 24, [.int .i64 0, .int .i64 0, .int .i64 0]) := by kernel_rfl
theorem size87 : sizeT Try.prog 87 = some 3 := by kernel_rfl

/-- What a frame holds: the three arguments. -/
def K3 (h : Heap) (x y z : V) (s : St) : Prop := s.env.length = 95 ∧ s.marks = [] ∧ s.heap = h ∧ eget s.env 0 = x ∧ eget s.env 1 = y ∧ eget s.env 2 = z

/-- The frame at the begin. -/
theorem start3 {B : Nat} {S : Cells} {w : World} {κ : Kap} {h : Heap} {p d r : V} {pv dv rv : Value} (inv : Ev.Inv Try.prog B S w κ h) (hp : RV S w κ p pv) (hd : RV S w κ d dv) (hr : RV S w κ r rv) :
    ∃ s, SR Try.prog B S w κ s { tmps := #[pv, dv, rv] ++ Array.replicate (95 - 3) undef, defers := [] } ∧ K3 h p d r s := by
  refine ⟨{ env := [p, d, r] ++ List.replicate (95 - 3) V.non, marks := [], heap := h }, ⟨inv, ?_, trivial⟩, ?_⟩
  · simp only [Array.toList_append, Array.toList_replicate]
    exact RL_append (by simp only [RL]; exact ⟨hp, hd, hr, trivial⟩) RL_reps
  · exact ⟨by simp, rfl, rfl, rfl, rfl, rfl⟩

section
variable {B : Nat} {S : Cells} {w : World} {κ : Kap} {h : Heap}

theorem cond_no {n : Nat} {c : Operand} {t : Nat} {x y : Code} {Q : Exit → Act → World → Prop} {s : St} {a : Act} (hs : SR Try.prog B S w κ s a) (hc : c = .tmp t) (ht : eget s.env t = .bool false) (hy : y.wpIn (Fr none) n Try.prog Q a w) :
    (Code.cond c x y).wpIn (Fr none) n Try.prog Q a w := by
  subst hc
  have := eget_sound hs.env t
  rw [ht] at this
  simp only [RV] at this
  exact wpIn_cond_false this hy
theorem cond_yes {n : Nat} {c : Operand} {t : Nat} {x y : Code} {Q : Exit → Act → World → Prop} {s : St} {a : Act} (hs : SR Try.prog B S w κ s a) (hc : c = .tmp t) (ht : eget s.env t = .bool true) (hy : x.wpIn (Fr none) n Try.prog Q a w) :
    (Code.cond c x y).wpIn (Fr none) n Try.prog Q a w := by
  subst hc
  have := eget_sound hs.env t
  rw [ht] at this
  simp only [RV] at this
  exact wpIn_cond_true this hy

set_option maxRecDepth 100000 in
set_option maxHeartbeats 4000000 in
/-- At the end: an append. -/
theorem ins_end {call : CallF} (hcall : CallS Try.prog call) {p x z : V} {h' : Heap} {l m : Nat} (hl : lenV .l h p = some l) (hm : lenV .l h x = some (m + 1)) (ha : evApp h 3 24 p x = some (z, h'))
    {pv dv xv : Value} (inv : Ev.Inv Try.prog B S w κ h) (hp : RV S w κ p pv) (hd : RV S w κ (.int .i64 l) dv) (hx : RV S w κ x xv) (n : Nat) :
    CallsIn Fence.wide n Try.prog 29 #[pv, dv, xv] w (Ev.Ends Try.prog B S w κ z h') := by
  obtain ⟨s, hs, g0, g1, g2, g3, g4, g5⟩ := start3 inv hp hd hx
  have hes : ∃ es, elemsOf h x = some es := by
    unfold evApp at ha
    split at ha
    · cases ha
    · exact ⟨_, by assumption⟩
  obtain ⟨es, hes⟩ := hes
  have hne : es ≠ [] := by
    have := elems_len hes hm
    intro e
    subst e
    simp at this
  have hsl : ∃ v, sliceL h 3 p (some (.int .i64 l)) none = some v := by
    cases p <;> simp only [lenV, Option.some.injEq, reduceCtorEq] at hl
    case nils => subst hl; exact ⟨_, rfl⟩
    case arr => unfold evApp at ha; rw [hes] at ha; simp at ha
    case sl id ep off len =>
      subst hl
      obtain ⟨zz, xs, cur, wr, hi, hc⟩ := evApp_sl hes ha
      rcases hc with ⟨h1, _⟩ | ⟨_, rfl, rfl, _, _, _⟩
      · exact absurd h1 hne
      · simp [sliceL, hi, lohi, bound]
  obtain ⟨sv, hsv⟩ := hsl
  have hq : ∀ (h : Heap) (x y z : V) (s : St), K3 h x y z s → s.env.length = 95 ∧ s.marks = [] ∧ s.heap = h ∧ eget s.env 0 = x ∧ eget s.env 1 = y ∧ eget s.env 2 = z := fun _ _ _ _ _ h => h
  refine callsIn_of_wp_marks (fn := Try.f29) Try.func29 rfl trivial ?_
  refine wpIn_seq (wpIn_region ?_)
  refine ops_part hcall [0] [⟨some 6, .mov (.c .nils), none⟩] (by kernel_rfl) (q := K3 h p (.int .i64 l) x) ?_ hs ?_
  · simp [K3, g0, g1, g2, g3, g4, g5]
  intro s1 a1 w1 S1 κ1 k1 hs1 st1
  clear g0 g1 g2 g3 g4 g5 hs
  obtain ⟨g0, g1, g2, g3, g4, g5⟩ := k1
  refine wpIn_seq (wpIn_region ?_)
  refine ops_part hcall [0, 1, 2] [⟨some 10, .mov (.t 0), none⟩, ⟨some 11, .mov (.t 1), none⟩, ⟨some 12, .slice .l 3 (.t 10) (some (.t 11)) none, none⟩] (by kernel_rfl) (q := K3 h p (.int .i64 l) x) ?_ hs1 ?_
  · simp [K3, g0, g1, g2, g3, g4, g5, sliceV, hsv, okV, fV_eq]
  intro s2 a2 w2 S2 κ2 k2 hs2 st2
  clear g0 g1 g2 g3 g4 g5 hs1
  obtain ⟨g0, g1, g2, g3, g4, g5⟩ := k2
  refine wpIn_seq (wpIn_region ?_)
  refine ops_part hcall [0, 1, 2] [⟨some 13, .mov (.t 2), none⟩, ⟨some 14, .len .l (.t 13), none⟩, ⟨some 7, .mov (.t 14), none⟩] (by kernel_rfl) (q := fun s => K3 h p (.int .i64 l) x s ∧ eget s.env 7 = .int .i64 (m + 1)) ?_ hs2 ?_
  · simp [K3, g0, g1, g2, g3, g4, g5, evLen, hm, fNat_eq]
  intro s3 a3 w3 S3 κ3 k3 hs3 st3
  clear g0 g1 g2 g3 g4 g5 hs2
  obtain ⟨⟨g0, g1, g2, g3, g4, g5⟩, g7⟩ := k3
  refine wpIn_seq (wpIn_seq (wpIn_region ?_))
  have hb : ((m : Int) + 1 == 0) = false := by simp; omega
  refine ops_part hcall [0, 1] [⟨some 15, .mov (.t 7), none⟩, ⟨some 16, .bin .eql (.t 15) (.c (.int .i64 0)), none⟩] (by kernel_rfl) (q := fun s => K3 h p (.int .i64 l) x s ∧ eget s.env 7 = .int .i64 (m + 1) ∧ eget s.env 16 = .bool false) ?_ hs3 ?_
  · simp [K3, g0, g1, g2, g3, g4, g5, g7, hb, okV, fV_eq]
  intro s4 a4 w4 S4 κ4 k4 hs4 st4
  clear g0 g1 g2 g3 g4 g5 g7 hs3
  obtain ⟨⟨g0, g1, g2, g3, g4, g5⟩, g7, g16⟩ := k4
  refine cond_no hs4 rfl g16 (wpIn_skip ?_)
  refine wpIn_seq (wpIn_region ?_)
  refine ops_part hcall [0, 1, 2] [⟨some 18, .mov (.t 0), none⟩, ⟨some 19, .len .l (.t 18), none⟩, ⟨some 8, .mov (.t 19), none⟩] (by kernel_rfl) (q := fun s => K3 h p (.int .i64 l) x s ∧ eget s.env 8 = .int .i64 l) ?_ hs4 ?_
  · simp [K3, g0, g1, g2, g3, g4, g5, evLen, hl, fNat_eq]
  intro s5 a5 w5 S5 κ5 k5 hs5 st5
  clear g0 g1 g2 g3 g4 g5 g7 g16 hs4
  obtain ⟨⟨g0, g1, g2, g3, g4, g5⟩, g8⟩ := k5
  refine wpIn_seq (wpIn_seq (wpIn_region ?_))
  refine ops_part hcall [0, 1, 2] [⟨some 20, .mov (.t 1), none⟩, ⟨some 21, .mov (.t 8), none⟩, ⟨some 22, .bin .eql (.t 20) (.t 21), none⟩] (by kernel_rfl) (q := fun s => K3 h p (.int .i64 l) x s ∧ eget s.env 22 = .bool true) ?_ hs5 ?_
  · simp [K3, g0, g1, g2, g3, g4, g5, g8, okV, fV_eq]
  intro s6 a6 w6 S6 κ6 k6 hs6 st6
  clear g0 g1 g2 g3 g4 g5 g8 hs5
  obtain ⟨⟨g0, g1, g2, g3, g4, g5⟩, g22⟩ := k6
  refine cond_yes hs6 rfl g22 (wpIn_seq (wpIn_region ?_))
  refine ops_part hcall [0, 1, 2, 3] [⟨some 23, .mov (.t 0), none⟩, ⟨some 24, .mov (.t 2), none⟩, ⟨some 25, .app 3 24 (.t 23) (.t 24), none⟩, ⟨some 6, .mov (.t 25), none⟩] (by kernel_rfl) (q := fun s => s.marks = [] ∧ s.heap = h' ∧ eget s.env 6 = z) ?_ hs6 ?_
  · simp [g0, g1, g2, g3, g4, g5, ha]
  intro s7 a7 w7 S7 κ7 k7 hs7 st7
  obtain ⟨q1, q2, q3⟩ := k7
  refine wpIn_ret ?_
  subst q2
  have hret := fin_ret (F := Fence.wide) (n := n) (fn := Try.f29) (R := Ev.Ends Try.prog B S w κ z s7.heap) hs7 q1 (cr := [.tmp 6]) (by kernel_rfl) (vs := [z]) (by simp [evRes, q3]) (fun v hv => ⟨v, S7, κ7, rfl, hs7.inv, st1.trans (st2.trans (st3.trans (st4.trans (st5.trans (st6.trans st7))))), hv⟩)
  exact hret

theorem wrapN (n : Nat) (h : n ≤ 9223372036854775807) : IntKind.i64.wrap (n : Int) = n := by rw [Ev.wrap64] <;> omega

set_option maxRecDepth 100000 in
set_option maxHeartbeats 16000000 in
/-- Ahead of another one. -/
theorem ins_mid {call : CallF} (hcall : CallS Try.prog call) {id ep off len jd cj oj i : Nat} {xs ys : List (List V)} {zj : Nat} {wj : Bool} {e : List V} (hi : h[id]? = some (.row 3 xs ep true)) (hj : h[jd]? = some (.row zj ys cj wj))
    (hye : ys[oj]? = some e) (hil : i < len) (hol : off + len ≤ xs.length) (hroom : (len + 1) * 24 ≤ roomB) (he3 : e.length = 3) (hne : jd ≠ id) (hxs : ∀ e ∈ xs, e.all scal = true) (hys : ∀ e ∈ ys, e.all scal = true)
    {pv dv xv : Value} (inv : Ev.Inv Try.prog B S w κ h) (hp : RV S w κ (.sl id ep off len) pv) (hd : RV S w κ (.int .i64 i) dv) (hx : RV S w κ (.sl jd cj oj 1) xv) (n : Nat) :
    CallsIn Fence.wide n Try.prog 29 #[pv, dv, xv] w (Ev.Ends Try.prog B S w κ (.sl id (ep + 1) off (len + 1)) ((h.set jd (.row zj ys cj false)).set id (.row 3 (xs.take (off + i) ++ [e] ++ (xs.drop (off + i)).take (len - i)) (ep + 1) true))) := by
  have hlen : len ≤ 9223372036854775000 := by unfold roomB at hroom; omega
  obtain ⟨s, hs, g0, g1, g2, g3, g4, g5⟩ := start3 inv hp hd hx
  have hsl : sliceL h 3 (.sl id ep off len) (some (.int .i64 i)) none = some (.sl id ep (off + i) (len - i)) := by
    have : (i : Int) ≤ (len : Int) := by omega
    simp [sliceL, hi, lohi, bound, this]
  have hl : lenV .l h (.sl id ep off len) = some len := rfl
  refine callsIn_of_wp_marks (fn := Try.f29) Try.func29 rfl trivial ?_
  refine wpIn_seq (wpIn_region ?_)
  refine ops_part hcall [0] [⟨some 6, .mov (.c .nils), none⟩] (by kernel_rfl) (q := K3 h (.sl id ep off len) (.int .i64 i) (.sl jd cj oj 1)) ?_ hs ?_
  · simp [K3, g0, g1, g2, g3, g4, g5]
  intro s1 a1 w1 S1 κ1 k1 hs1 st1
  clear g0 g1 g2 g3 g4 g5 hs
  obtain ⟨g0, g1, g2, g3, g4, g5⟩ := k1
  refine wpIn_seq (wpIn_region ?_)
  refine ops_part hcall [0, 1, 2] [⟨some 10, .mov (.t 0), none⟩, ⟨some 11, .mov (.t 1), none⟩, ⟨some 12, .slice .l 3 (.t 10) (some (.t 11)) none, none⟩] (by kernel_rfl) (q := K3 h (.sl id ep off len) (.int .i64 i) (.sl jd cj oj 1)) ?_ hs1 ?_
  · simp [K3, g0, g1, g2, g3, g4, g5, sliceV, hsl, okV, fV_eq]
  intro s2 a2 w2 S2 κ2 k2 hs2 st2
  have stA := st1.trans st2
  clear g0 g1 g2 g3 g4 g5 hs1 st1 st2
  obtain ⟨g0, g1, g2, g3, g4, g5⟩ := k2
  refine wpIn_seq (wpIn_region ?_)
  refine ops_part hcall [0, 1, 2] [⟨some 13, .mov (.t 2), none⟩, ⟨some 14, .len .l (.t 13), none⟩, ⟨some 7, .mov (.t 14), none⟩] (by kernel_rfl) (q := fun s => K3 h (.sl id ep off len) (.int .i64 i) (.sl jd cj oj 1) s ∧ eget s.env 7 = .int .i64 1) ?_ hs2 ?_
  · simp [K3, g0, g1, g2, g3, g4, g5, evLen, lenV, fNat_eq]
  intro s3 a3 w3 S3 κ3 k3 hs3 st3
  clear g0 g1 g2 g3 g4 g5 hs2
  obtain ⟨⟨g0, g1, g2, g3, g4, g5⟩, g7⟩ := k3
  refine wpIn_seq (wpIn_seq (wpIn_region ?_))
  refine ops_part hcall [0, 1] [⟨some 15, .mov (.t 7), none⟩, ⟨some 16, .bin .eql (.t 15) (.c (.int .i64 0)), none⟩] (by kernel_rfl) (q := fun s => K3 h (.sl id ep off len) (.int .i64 i) (.sl jd cj oj 1) s ∧ eget s.env 7 = .int .i64 1 ∧ eget s.env 16 = .bool false) ?_ hs3 ?_
  · simp [K3, g0, g1, g2, g3, g4, g5, g7, okV, fV_eq]
  intro s4 a4 w4 S4 κ4 k4 hs4 st4
  have stB := stA.trans (st3.trans st4)
  clear g0 g1 g2 g3 g4 g5 g7 hs3 stA st3 st4
  obtain ⟨⟨g0, g1, g2, g3, g4, g5⟩, g7, g16⟩ := k4
  refine cond_no hs4 rfl g16 (wpIn_skip ?_)
  refine wpIn_seq (wpIn_region ?_)
  refine ops_part hcall [0, 1, 2] [⟨some 18, .mov (.t 0), none⟩, ⟨some 19, .len .l (.t 18), none⟩, ⟨some 8, .mov (.t 19), none⟩] (by kernel_rfl) (q := fun s => K3 h (.sl id ep off len) (.int .i64 i) (.sl jd cj oj 1) s ∧ eget s.env 7 = .int .i64 1 ∧ eget s.env 8 = .int .i64 len) ?_ hs4 ?_
  · simp [K3, g0, g1, g2, g3, g4, g5, g7, evLen, hl, fNat_eq]
  intro s5 a5 w5 S5 κ5 k5 hs5 st5
  clear g0 g1 g2 g3 g4 g5 g7 g16 hs4
  obtain ⟨⟨g0, g1, g2, g3, g4, g5⟩, g7, g8⟩ := k5
  refine wpIn_seq (wpIn_seq (wpIn_region ?_))
  have hb : ((i : Int) == (len : Int)) = false := by simp; omega
  refine ops_part hcall [0, 1, 2] [⟨some 20, .mov (.t 1), none⟩, ⟨some 21, .mov (.t 8), none⟩, ⟨some 22, .bin .eql (.t 20) (.t 21), none⟩] (by kernel_rfl) (q := fun s => K3 h (.sl id ep off len) (.int .i64 i) (.sl jd cj oj 1) s ∧ eget s.env 7 = .int .i64 1 ∧ eget s.env 8 = .int .i64 len ∧ eget s.env 22 = .bool false) ?_ hs5 ?_
  · simp [K3, g0, g1, g2, g3, g4, g5, g7, g8, hb, okV, fV_eq]
  intro s6 a6 w6 S6 κ6 k6 hs6 st6
  have stC := stB.trans (st5.trans st6)
  clear g0 g1 g2 g3 g4 g5 g7 g8 hs5 stB st5 st6
  obtain ⟨⟨g0, g1, g2, g3, g4, g5⟩, g7, g8, g22⟩ := k6
  refine cond_no hs6 rfl g22 (wpIn_skip ?_)
  -- the capacity is looked at
  refine wpIn_seq (wpIn_seq (wpIn_region ?_))
  have hw1 : IntKind.i64.wrap ((len : Int) + 1) = ((len + 1 : Nat) : Int) := by rw [Ev.wrap64] <;> omega
  refine ops_part hcall [0, 1, 2, 3] [⟨some 26, .mov (.t 8), none⟩, ⟨some 27, .mov (.t 7), none⟩, ⟨some 28, .bin .add (.t 26) (.t 27), none⟩, ⟨some 29, .mov (.t 0), none⟩] (by kernel_rfl)
    (q := fun s => K3 h (.sl id ep off len) (.int .i64 i) (.sl jd cj oj 1) s ∧ eget s.env 7 = .int .i64 1 ∧ eget s.env 8 = .int .i64 len ∧ eget s.env 28 = .int .i64 ((len + 1 : Nat) : Int) ∧ eget s.env 29 = .sl id ep off len) ?_ hs6 ?_
  · simp [K3, g0, g1, g2, g3, g4, g5, g7, g8, hw1, okV, fV_eq]
  intro s7 a7 w7 S7 κ7 k7 hs7 st7
  have stD := stC.trans st7
  clear g0 g1 g2 g3 g4 g5 g7 g8 g22 hs6 stC st7
  obtain ⟨⟨g0, g1, g2, g3, g4, g5⟩, g7, g8, g28, g29⟩ := k7
  have inv7 := hs7.inv
  rw [g2] at inv7
  have hu29 := eget_sound hs7.env 29
  rw [g29] at hu29
  obtain ⟨b, st, cp, ad, hk, hu, hso, hfit, had⟩ := sl_sound inv7 hi hu29
  have had' : ad = ⟨b, (off - st) * 3, none⟩ := by
    rcases had with h | h
    · omega
    · exact h
  subst had'
  have h29 : a7.eval (.tmp 29) = .slice (some ⟨b, (off - st) * 3, none⟩) len (st + cp - off) := hu
  refine op_hand (i := 4) rfl rfl (by simp) (v := .int .i64 ((st + cp - off : Nat) : Int)) (w' := w7) ?_ ?_
  · have : execOp a7.eval (⟨some 30, .call { callee := .builtin .cap, args := #[.tmp 29], argTypes := #[66] }, 3, "slices.go:147", #[{ on := 3, ground := .data }], none⟩ : Oper) = (do pure (.value (← Builtin.cap_ #[66] 3 #[a7.eval (.tmp 29)]))) := by
      simp [execOp, resolve, invoke, builtin]
    refine (congrArg (fun s => Sem.run Try.prog s w7) this).trans ?_
    rw [h29]
    simp [cap_run (P := Try.prog) (t := 66) (e := 87) Try.underlying66]
  have hs8 := SR_put hs7 hs7.inv (.refl B _ _ _) (x := .int .i64 ((st + cp - off : Nat) : Int)) (v := .int .i64 ((st + cp - off : Nat) : Int)) (by simp only [RV]) (some 30)
  refine ops_part hcall [5] [⟨some 31, .bin .gtr (.t 28) (.t 30), none⟩] (by kernel_rfl)
    (q := fun s => K3 h (.sl id ep off len) (.int .i64 i) (.sl jd cj oj 1) s ∧ eget s.env 7 = .int .i64 1 ∧ eget s.env 8 = .int .i64 len ∧ eget s.env 31 = .bool (decide (((len + 1 : Nat) : Int) > ((st + cp - off : Nat) : Int)))) ?_ hs8 ?_
  · simp [K3, g0, g1, g2, g3, g4, g5, g7, g8, g28, okV, fV_eq]
  intro s9 a9 w9 S9 κ9 k9 hs9 st9
  have stE := stD.trans st9
  clear g0 g1 g2 g3 g4 g5 g7 g8 g28 g29 hs7 hs8 stD hu hu29 h29 inv7
  obtain ⟨⟨g0, g1, g2, g3, g4, g5⟩, g7, g8, g31⟩ := k9
  have hk9 : κ9 id = some (.row ep b st cp 3) := by
    have inv9 := hs9.inv
    rw [g2] at inv9
    obtain ⟨b', st', cp', c', el', fr', q1, _⟩ := row_elem inv9 hi
    obtain ⟨k', q2, q3⟩ := st9.kle _ _ hk
    rw [q1] at q2
    cases q2
    cases q3 with
    | same => exact q1
    | later _ _ _ _ _ _ _ _ _ hlt => omega
  clear hk st9
  by_cases hc : len + 1 > st + cp - off
  · -- no room: a new row
    have hdec : decide (((len + 1 : Nat) : Int) > ((st + cp - off : Nat) : Int)) = true := by simp; omega
    rw [hdec] at g31
    refine cond_yes hs9 rfl g31 ?_
    refine wpIn_seq (wpIn_region ?_)
    have hw2 : IntKind.i64.wrap (((len + 1 : Nat) : Int) - (i : Int)) = ((len + 1 - i : Nat) : Int) := by rw [Ev.wrap64] <;> omega
    have hsl2 : sliceL h 3 (.sl id ep off len) none (some (.int .i64 i)) = some (.sl id ep off i) := by
      have h1 : (i : Int) ≤ ((max len (xs.length - off) : Nat) : Int) := by omega
      simp only [sliceL, hi, lohi, bound, true_and, if_true, Nat.add_zero, Nat.sub_zero]
      rw [if_pos ⟨by omega, h1⟩]
      simp
    refine ops_part hcall [0, 1, 2, 3, 4, 5, 6, 7] [⟨some 32, .mov (.t 0), none⟩, ⟨some 33, .mov (.t 1), none⟩, ⟨some 34, .slice .l 3 (.t 32) none (some (.t 33)), none⟩, ⟨some 35, .mov (.t 8), none⟩, ⟨some 36, .mov (.t 7), none⟩, ⟨some 37, .bin .add (.t 35) (.t 36), none⟩, ⟨some 38, .mov (.t 1), none⟩, ⟨some 39, .bin .sub (.t 37) (.t 38), none⟩] (by kernel_rfl)
      (q := fun s => K3 h (.sl id ep off len) (.int .i64 i) (.sl jd cj oj 1) s ∧ eget s.env 7 = .int .i64 1 ∧ eget s.env 34 = .sl id ep off i ∧ eget s.env 39 = .int .i64 ((len + 1 - i : Nat) : Int)) ?_ hs9 ?_
    · simp [K3, g0, g1, g2, g3, g4, g5, g7, g8, sliceV, hsl2, hw1, okV, fV_eq]
      simpa using hw2
    intro s10 a10 w10 S10 κ10 k10 hs10 st10
    have stF := stE.trans st10
    clear g0 g1 g2 g3 g4 g5 g7 g8 g31 hs9 stE
    obtain ⟨⟨g0, g1, g2, g3, g4, g5⟩, g7, g34, g39⟩ := k10
    have inv10 := hs10.inv
    rw [g2] at inv10
    have hk10 : κ10 id = some (.row ep b st cp 3) := by
      obtain ⟨b', st', cp', c', el', fr', q1, _⟩ := row_elem inv10 hi
      obtain ⟨k', q2, q3⟩ := st10.kle _ _ hk9
      rw [q1] at q2
      cases q2
      cases q3 with
      | same => exact q1
      | later _ _ _ _ _ _ _ _ _ hlt => omega
    have hu0 := eget_sound hs10.env 0
    rw [g3] at hu0
    have hu1 := eget_sound hs10.env 1
    rw [g4] at hu1
    have hu2 := eget_sound hs10.env 2
    rw [g5] at hu2
    have hu7 := eget_sound hs10.env 7
    rw [g7] at hu7
    have hu34 := eget_sound hs10.env 34
    rw [g34] at hu34
    have hu39 := eget_sound hs10.env 39
    rw [g39] at hu39
    simp only [RV] at hu39 hu1 hu7
    obtain ⟨b', st', cp', a', k1, k2, k3, k4, k5⟩ := sl_sound inv10 hi hu34
    rw [hk10] at k1
    cases k1
    -- what is there, frozen
    have hf1 : mapH (fz fzDepth) h [.sl id ep off len, .sl jd cj oj 1] = some ([.arr ((xs.drop off).take len), .arr [e]], (h.set id (.row 3 xs ep false)).set jd (.row zj ys cj false)) := by
      have q1 := fz_sl (d := 62) (h := h) (id := id) (ep := ep) (off := off) (len := len) hi hol hxs
      have hj' : (h.set id (.row 3 xs ep false))[jd]? = some (.row zj ys cj wj) := by rw [List.getElem?_set_ne (Ne.symm hne)]; exact hj
      have hoj := (List.getElem?_eq_some_iff.1 hye).1
      have q2 := fz_sl (d := 62) (h := h.set id (.row 3 xs ep false)) (id := jd) (ep := cj) (off := oj) (len := 1) hj' (by omega) hys
      have q3 : (ys.drop oj).take 1 = [e] := by
        rw [List.take_one, List.head?_drop, hye]; rfl
      rw [q3] at q2
      have q1' : fz fzDepth h (.sl id ep off len) = some (.arr ((xs.drop off).take len), h.set id (.row 3 xs ep false)) := q1
      have q2' : fz fzDepth (h.set id (.row 3 xs ep false)) (.sl jd cj oj 1) = some (.arr [e], (h.set id (.row 3 xs ep false)).set jd (.row zj ys cj false)) := q2
      simp only [mapH, q1', q2']
    obtain ⟨T1, invT, stT, hT⟩ := fzs_sound hf1 inv10 (us := [a10.eval (.tmp 0), a10.eval (.tmp 2)]) (by simp only [RL]; exact ⟨hu0, hu2, trivial⟩)
    simp only [RL] at hT
    obtain ⟨hT0, hT2, _⟩ := hT
    have inv0 : Ev.Inv Try.prog w10.heap.size T1 w10 noK [] := ⟨fun i o ho => (by simp at ho), fun i j k k' h => (by cases h), fun i k h => (by cases h), invT.sb, Nat.le_refl _⟩
    obtain ⟨inv0d, st0d⟩ := inv0.drawn
    -- the part ahead is read
    obtain ⟨inv10d, st10d⟩ := inv10.drawn
    have hu34d := RV.mono st10d.sle st10d.kle _ _ hu34
    have hel : elemsOf h (.sl id ep off i) = some ((xs.drop off).take i) := by
      simp only [elemsOf, hi, true_and]
      rw [if_pos (by omega)]
    obtain ⟨_, _, _, _, _, _, _, _, _, _, _, _, _, hall, _⟩ := row_elem inv10 hi
    have hsz3 : ∀ e ∈ xs, e.length = 3 := fun e he => (hall e he).1
    obtain ⟨_, hcel, hfst⟩ := elems_sound inv10d (sz := 3) (by decide) hu34d hel (fun e he => hsz3 e (List.mem_of_mem_drop (List.mem_of_mem_take he)))
    obtain ⟨os, lo, ro, fo⟩ := hfst i (by simp; omega)
    rw [List.take_of_length_le (by simp; omega)] at ro
    have k2' : a10.tmps.getD 34 undef = .slice (some a') i (st + cp - off) := k2
    rw [k2'] at fo
    obtain ⟨cap, cc, zs, c1, c2, c3, c4⟩ := zapp_grows (P := Try.prog) (S := T1) (w := w10) (κ := noK) (t := 66) (u := 3) (T := 66) (e := 87) (k := len + 1 - i) Try.underlying66 Try.underlying3 elem87 fo (by omega) (by omega) (by
      simp only
      have : i + (len + 1 - i) = len + 1 := by omega
      rw [this]; exact hroom)
    refine op_hand (i := 8) rfl rfl (by simp) (v := .slice (some ⟨w10.heap.size, 0, none⟩) (i + (len + 1 - i)) cap) (w' := w10.drew.alloc (.cells cc 87)) ?_ ?_
    · have : ∀ (o : Oper), o.op = .call { callee := .builtin .append, args := #[.tmp 34, .tmp 39], argTypes := #[66, 3] } → o.type = 66 → execOp a10.eval o = (do pure (.value (← Builtin.append_ #[66, 3] 66 #[a10.eval (.tmp 34), a10.eval (.tmp 39)]))) := by
        intro o h1 h2
        simp [execOp, h1, h2, resolve, invoke, builtin]
      rw [this _ rfl rfl]
      have e34 : a10.eval (.tmp 34) = .slice (some a') i (st + cp - off) := k2
      have e39 : a10.eval (.tmp 39) = .int .i64 ((len + 1 - i : Nat) : Int) := hu39
      rw [e34, e39]
      simp [c4]
    -- the new row
    let z3 : List V := [.int .i64 0, .int .i64 0, .int .i64 0]
    let els := (xs.drop off).take len
    let xs0 := (xs.drop off).take i ++ List.replicate (len + 1 - i) z3
    have hz3 : RL T1 w10.drew noK z3 zs := RL.mono st0d.sle st0d.kle _ _ c2
    have hzl : zs.length = 3 := (RL_length c2).symm
    have hx0 : ∀ e ∈ xs0, e.length = 3 ∧ e.all V.isCell = true ∧ e.all scal = true := by
      intro e he
      rcases List.mem_append.1 he with he | he
      · have := List.mem_of_mem_drop (List.mem_of_mem_take he)
        exact ⟨(hall e this).1, (hall e this).2, hxs e this⟩
      · rw [List.mem_replicate] at he
        rw [he.2]
        exact ⟨rfl, rfl, rfl⟩
    have hxl : xs0.length = len + 1 := by simp [xs0]; omega
    have hccl : cc.size = cap * 3 := by
      rw [← Array.length_toList, c3, List.length_append, lo]
      have : ((List.replicate (cap - i) zs).flatten).length = (cap - i) * 3 := by simp [hzl]
      rw [this, ← Nat.add_mul]
      congr 1; omega
    have hro : RL T1 w10.drew noK ((xs.drop off).take i).flatten os := by
      have hs : ((xs.drop off).take i).flatten.all scal = true := by
        rw [List.all_eq_true]
        intro y hy
        obtain ⟨e, he, hy⟩ := List.mem_flatten.1 hy
        exact List.all_eq_true.1 (hxs e (List.mem_of_mem_drop (List.mem_of_mem_take he))) y hy
      have h1 := RL_scal (κ' := noK) hs ro
      exact RL.mono (S := S10) (S' := T1) (w := w10.drew) (w' := w10.drew) ⟨stT.sle.1, fun _ _ _ => rfl⟩ (.refl _) _ _ h1
    obtain ⟨inv11, st11, rv11⟩ := fresh_row inv0d (xs := xs0) (c := cc) 87 cap 3 (by decide) hccl (by omega) (fun e he => ⟨(hx0 e he).1, (hx0 e he).2.1⟩)
      (RR_flat (fun e he => (hx0 e he).1) (vs := os ++ (List.replicate (len + 1 - i) zs).flatten) (by
        simp only [List.drop_zero, xs0, List.flatten_append]
        exact RL_append hro (RL_flat_rep hz3 _)) (fun j hj => by
        rw [c3, List.getElem?_append, List.getElem?_append]
        split
        · rfl
        · rename_i hge
          have e1 : (List.replicate (cap - i) zs).flatten = (List.replicate (len + 1 - i) zs).flatten ++ (List.replicate (cap - (len + 1)) zs).flatten := by
            rw [← List.flatten_append, List.replicate_append_replicate]
            congr 2
            omega
          rw [e1, List.getElem?_append_left (by simp only [List.length_append] at hj; omega)]))
    rw [hxl] at rv11
    have stG := st0d.trans st11
    have hsz10 : s10.env.length = a10.tmps.size := by have := RL_length hs10.env; simpa using this
    have hput : ∀ j, (a10.put (some 40) (.slice (some ⟨w10.heap.size, 0, none⟩) (i + (len + 1 - i)) cap)).tmps.toList[j]? = if j = 40 then (if 40 < a10.tmps.size then some (.slice (some ⟨w10.heap.size, 0, none⟩) (i + (len + 1 - i)) cap) else none) else a10.tmps.toList[j]? := by
      intro j
      simp only [Act.put, Array.toList_setIfInBounds, List.getElem?_set, Array.length_toList]
      by_cases hj : 40 = j
      · subst hj; simp
      · simp [hj, Ne.symm hj]
    have hdef : a10.defers = [] := by
      have hk := hs10.mks
      rw [g1] at hk
      cases hd : a10.defers with
      | nil => rfl
      | cons d ds => rw [hd] at hk; exact hk.elim
    let env0 : List V := (List.range 95).map fun j => if j = 0 then .arr els else if j = 1 then .int .i64 i else if j = 2 then .arr [e] else if j = 7 then .int .i64 1 else if j = 40 then .sl 0 0 0 (len + 1) else .undef
    have hs11 : SR Try.prog w10.heap.size T1 (w10.drew.alloc (.cells cc 87)) (upd noK 0 (.row 0 w10.drew.heap.size 0 cap 3)) { env := env0, marks := [], heap := [.row 3 xs0 0 true] } (a10.put (some 40) (.slice (some ⟨w10.heap.size, 0, none⟩) (i + (len + 1 - i)) cap)) := by
      refine ⟨inv11, ?_, ?_⟩
      · refine RL_of (by simp [env0, Act.put]; omega) (fun j x v hx hv => ?_)
        rw [hput j] at hv
        have hj : j < 95 := by have := (List.getElem?_eq_some_iff.1 hx).1; simpa [env0] using this
        simp only [env0, List.getElem?_map, List.getElem?_range hj, Option.map_some, Option.some.injEq] at hx
        have hget : ∀ v, a10.tmps.toList[j]? = some v → a10.tmps.getD j undef = v := by
          intro v hv
          simp only [Array.getElem?_toList] at hv
          simp [Array.getD_eq_getD_getElem?, hv]
        by_cases h0 : j = 0
        · subst h0
          simp only [if_true] at hx hv
          subst hx
          simp only [show ¬ (0 : Nat) = 40 by decide, if_false] at hv
          rw [← hget v hv]
          exact RV.mono stG.sle stG.kle _ _ hT0
        by_cases h1 : j = 1
        · subst h1
          simp only [show ¬ (1 : Nat) = 40 by decide, show ¬ (1 : Nat) = 0 by decide, if_false, if_true] at hx hv
          subst hx
          rw [← hget v hv, hu1]
          simp only [RV]
        by_cases h2 : j = 2
        · subst h2
          simp only [show ¬ (2 : Nat) = 40 by decide, show ¬ (2 : Nat) = 0 by decide, show ¬ (2 : Nat) = 1 by decide, if_false, if_true] at hx hv
          subst hx
          rw [← hget v hv]
          exact RV.mono stG.sle stG.kle _ _ hT2
        by_cases h7 : j = 7
        · subst h7
          simp only [show ¬ (7 : Nat) = 40 by decide, show ¬ (7 : Nat) = 0 by decide, show ¬ (7 : Nat) = 1 by decide, show ¬ (7 : Nat) = 2 by decide, if_false, if_true] at hx hv
          subst hx
          rw [← hget v hv, hu7]
          simp only [RV]
        by_cases h40 : j = 40
        · subst h40
          simp only [show ¬ (40 : Nat) = 0 by decide, show ¬ (40 : Nat) = 1 by decide, show ¬ (40 : Nat) = 2 by decide, show ¬ (40 : Nat) = 7 by decide, if_false, if_true] at hx hv
          subst hx
          split at hv
          · cases hv
            have e1 : i + (len + 1 - i) = len + 1 := by omega
            rw [e1]
            exact rv11
          · cases hv
        · simp only [h0, h1, h2, h7, h40, if_false] at hx
          subst hx
          simp [RV]
      · show MK _ [] a10.defers
        rw [hdef]
        trivial
    have f0 : eget env0 0 = .arr els := rfl
    have f1 : eget env0 1 = .int .i64 i := rfl
    have f2 : eget env0 2 = .arr [e] := rfl
    have f7 : eget env0 7 = .int .i64 1 := rfl
    have f40 : eget env0 40 = .sl 0 0 0 (len + 1) := rfl
    have fl : env0.length = 95 := by simp [env0]
    clear_value env0
    refine ops_part hcall [9] [⟨some 9, .mov (.t 40), none⟩] (by kernel_rfl)
      (q := fun s => s.env.length = 95 ∧ s.marks = [] ∧ s.heap = [.row 3 xs0 0 true] ∧ eget s.env 0 = .arr els ∧ eget s.env 1 = .int .i64 i ∧ eget s.env 2 = .arr [e] ∧ eget s.env 7 = .int .i64 1 ∧ eget s.env 9 = .sl 0 0 0 (len + 1)) ?_ hs11 ?_
    · simp [f0, f1, f2, f7, f40, fl]
    intro s12 a12 w12 S12 κ12 k12 hs12 st12
    obtain ⟨m0, m1, m2, m3, m4, m5, m6, m7⟩ := k12
    have hn1 : (i : Int) ≤ ((len + 1 : Nat) : Int) := by omega
    have hel1 : els.length = len := by simp [els]; omega
    refine wpIn_seq (wpIn_region ?_)
    have t1 : sliceL [.row 3 xs0 0 true] 3 (.sl 0 0 0 (len + 1)) (some (.int .i64 i)) none = some (.sl 0 0 i (len + 1 - i)) := by
      simp only [sliceL, List.getElem?_cons_zero, lohi, bound, true_and, if_true, Nat.zero_add]
      rw [if_pos ⟨by omega, hn1⟩]
      simp
    let xs1 := xs0.take i ++ [e] ++ xs0.drop (i + 1)
    have t2 : evCopy [.row 3 xs0 0 true] 3 (.sl 0 0 i (len + 1 - i)) (.arr [e]) = some (.int .i64 1, [.row 3 xs1 0 true]) := by
      have q1 : min 1 (len + 1 - i) = 1 := by omega
      simp [evCopy, lenAny, lenV, q1, fNat_eq, elemsTo, elemsOf, szOk, he3, hxl, xs1, show i ≤ len + 1 by omega]
    refine ops_part hcall [0, 1, 2, 3, 4] [⟨some 41, .mov (.t 9), none⟩, ⟨some 42, .mov (.t 1), none⟩, ⟨some 43, .slice .l 3 (.t 41) (some (.t 42)) none, none⟩, ⟨some 44, .mov (.t 2), none⟩, ⟨some 45, .copy 3 (.t 43) (.t 44), none⟩] (by kernel_rfl)
      (q := fun s => s.env.length = 95 ∧ s.marks = [] ∧ s.heap = [.row 3 xs1 0 true] ∧ eget s.env 0 = .arr els ∧ eget s.env 1 = .int .i64 i ∧ eget s.env 7 = .int .i64 1 ∧ eget s.env 9 = .sl 0 0 0 (len + 1)) ?_ hs12 ?_
    · simp [m0, m1, m2, m3, m4, m5, m6, m7, sliceV, t1, t2, okV, fV_eq]
    intro s13 a13 w13 S13 κ13 k13 hs13 st13
    have stH := (stG.trans st12).trans st13
    clear m0 m1 m2 m3 m4 m5 m6 m7
    obtain ⟨m0, m1, m2, m3, m4, m6, m7⟩ := k13
    have hx1l : xs1.length = len + 1 := by simp [xs1, hxl]; omega
    have hwi : IntKind.i64.wrap ((i : Int) + 1) = ((i + 1 : Nat) : Int) := by rw [Ev.wrap64] <;> omega
    have t3 : sliceL [.row 3 xs1 0 true] 3 (.sl 0 0 0 (len + 1)) (some (.int .i64 ((i + 1 : Nat) : Int))) none = some (.sl 0 0 (i + 1) (len - i)) := by
      simp only [sliceL, List.getElem?_cons_zero, lohi, bound, true_and, if_true, Nat.zero_add]
      rw [if_pos ⟨by omega, by omega⟩]
      simp
    have hsz : szOk 3 els = true := by
      rw [szOk_iff]
      exact fun e he => (hall e (List.mem_of_mem_drop (List.mem_of_mem_take he))).1
    have t4 : sliceL [.row 3 xs1 0 true] 3 (.arr els) (some (.int .i64 i)) none = some (.arr (els.drop i)) := by
      simp only [sliceL, hsz, if_true, lohi, bound, hel1]
      rw [if_pos ⟨by omega, by omega⟩]
      simp [List.take_of_length_le (by omega : els.length ≤ len)]
    let xs2 := xs1.take (i + 1) ++ els.drop i ++ xs1.drop (i + 1 + (len - i))
    have t5 : evCopy [.row 3 xs1 0 true] 3 (.sl 0 0 (i + 1) (len - i)) (.arr (els.drop i)) = some (.int .i64 ((len - i : Nat) : Int), [.row 3 xs2 0 true]) := by
      have q1 : ¬ (len - i = 0) := by omega
      have q2 : (els.drop i).take (len - i) = els.drop i := List.take_of_length_le (by simp; omega)
      have q3 : szOk 3 (els.drop i) = true := by
        rw [szOk_iff] at hsz ⊢
        exact fun e he => hsz e (List.mem_of_mem_drop he)
      simp [evCopy, lenAny, lenV, hel1, fNat_eq, elemsTo, elemsOf, q1, q2, q3, hx1l, xs2, show i + 1 ≤ len + 1 by omega]
    refine wpIn_seq ?_
    refine draw_part mixed hcall [⟨some 46, .mov (.t 9), none⟩, ⟨some 47, .mov (.t 1), none⟩, ⟨some 48, .mov (.t 7), none⟩, ⟨some 49, .bin .add (.t 47) (.t 48), none⟩, ⟨some 50, .slice .l 3 (.t 46) (some (.t 49)) none, none⟩, ⟨some 51, .mov (.t 0), none⟩, ⟨some 52, .mov (.t 1), none⟩, ⟨some 53, .slice .l 3 (.t 51) (some (.t 52)) none, none⟩, ⟨some 54, .copy 3 (.t 50) (.t 53), none⟩] (by kernel_rfl)
      [0, 1, 2, 3, 4, 5, 6, 7, 8] (by kernel_rfl) rfl (q := fun s => s.env.length = 95 ∧ s.marks = [] ∧ s.heap = [.row 3 xs2 0 true] ∧ eget s.env 9 = .sl 0 0 0 (len + 1)) ?_ hs13 ?_
    · simp [m0, m1, m2, m3, m4, m6, m7, hwi, sliceV, t4, okV, fV_eq]
      rw [← Int.natCast_add_one, t3]
      simp [t4, t5]
    intro s14 a14 w14 S14 κ14 k14 hs14 st14
    obtain ⟨m0', m1', m2', m7'⟩ := k14
    refine wpIn_seq (wpIn_region ?_)
    refine ops_part hcall [0, 1] [⟨some 55, .mov (.t 9), none⟩, ⟨some 6, .mov (.t 55), none⟩] (by kernel_rfl)
      (q := fun s => s.marks = [] ∧ s.heap = [.row 3 xs2 0 true] ∧ eget s.env 6 = .sl 0 0 0 (len + 1)) ?_ hs14 ?_
    · simp [m0', m1', m2', m7']
    intro s15 a15 w15 S15 κ15 k15 hs15 st15
    obtain ⟨p1, p2, p6⟩ := k15
    refine wpIn_ret ?_
    have stI := (stH.trans st14).trans st15
    have hfin := fin_ret (F := Fence.wide) (n := n) (fn := Try.f29) (R := Ev.Ends Try.prog B S w κ (.sl id (ep + 1) off (len + 1)) ((h.set jd (.row zj ys cj false)).set id (.row 3 (xs.take (off + i) ++ [e] ++ (xs.drop (off + i)).take (len - i)) (ep + 1) true))) hs15 p1 (cr := [.tmp 6]) (by kernel_rfl) (vs := [.sl 0 0 0 (len + 1)]) (by simp [evRes, p6]) (fun v hv => ?_)
    · exact hfin
    have inv15 := hs15.inv
    rw [p2] at inv15
    -- what the new row shows
    have hx0e : xs0 = els.take i ++ List.replicate (len + 1 - i) z3 := by
      simp only [xs0, els, List.take_take, Nat.min_eq_left (Nat.le_of_lt hil)]
    have hti : (els.take i).length = i := by simp; omega
    have hx1e : xs1 = els.take i ++ [e] ++ List.replicate (len - i) z3 := by
      simp only [xs1, hx0e]
      rw [List.take_left' hti, ← List.drop_drop, List.drop_left' hti, List.drop_replicate]
      congr 2
      omega
    have hx2e : xs2 = els.take i ++ [e] ++ els.drop i := by
      simp only [xs2, hx1e]
      have l1 : (els.take i ++ [e]).length = i + 1 := by simp; omega
      have l2 : List.drop (i + 1 + (len - i)) (els.take i ++ [e] ++ List.replicate (len - i) z3) = [] := List.drop_eq_nil_of_le (by simp; omega)
      rw [List.take_left' l1, l2, List.append_nil]
    have hfr : ((h.set id (.row 3 xs ep false)).set jd (.row zj ys cj false))[id]? = some (.row 3 xs ep false) := by
      rw [List.getElem?_set_ne hne, List.getElem?_set_self (List.getElem?_eq_some_iff.1 hi).1]
    have hys2 : ∀ e ∈ xs2, e.all scal = true := by
      rw [hx2e]
      intro y hy
      rcases List.mem_append.1 hy with hy | hy
      · rcases List.mem_append.1 hy with hy | hy
        · exact hxs y (List.mem_of_mem_drop (List.mem_of_mem_take (List.mem_of_mem_take hy)))
        · simp only [List.mem_singleton] at hy
          subst hy
          exact hys y (List.mem_of_getElem? hye)
      · exact hxs y (List.mem_of_mem_drop (List.mem_of_mem_take (List.mem_of_mem_drop hy)))
    have hl2 : len + 1 = xs2.length := by rw [hx2e]; simp; omega
    obtain ⟨κ', r1, r2, r3⟩ := rebase (P := Try.prog) invT hfr inv15 stI hys2 (zs := xs.take off) (fun e he => hall e (List.mem_of_mem_take he)) hv hl2 (by omega)
    have hto : (xs.take off).length = off := by simp; omega
    rw [hto] at r3
    refine ⟨v, S15, κ', rfl, ?_, stF.trans (stT.trans r2), r3⟩
    have hheap : ((h.set id (.row 3 xs ep false)).set jd (.row zj ys cj false)).set id (.row 3 (xs.take off ++ xs2) (ep + 1) true) = (h.set jd (.row zj ys cj false)).set id (.row 3 (xs.take (off + i) ++ [e] ++ (xs.drop (off + i)).take (len - i)) (ep + 1) true) := by
      have hrow : xs.take off ++ xs2 = xs.take (off + i) ++ [e] ++ (xs.drop (off + i)).take (len - i) := by
        rw [hx2e, ← List.append_assoc, ← List.append_assoc]
        congr 1
        · simp only [els, List.take_take, Nat.min_eq_left (Nat.le_of_lt hil), List.take_add]
        · simp only [els, List.drop_take, List.drop_drop]
      rw [hrow, List.set_comm _ _ (Ne.symm hne), List.set_set]
    rw [hheap] at r1
    exact r1
  · have hdec : decide (((len + 1 : Nat) : Int) > ((st + cp - off : Nat) : Int)) = false := by simp; omega
    rw [hdec] at g31
    refine cond_no hs9 rfl g31 (wpIn_skip ?_)
    refine wpIn_seq (wpIn_region ?_)
    refine ops_part hcall [0, 1, 2, 3] [⟨some 56, .mov (.t 0), none⟩, ⟨some 57, .mov (.t 8), none⟩, ⟨some 58, .mov (.t 7), none⟩, ⟨some 59, .bin .add (.t 57) (.t 58), none⟩] (by kernel_rfl)
      (q := fun s => K3 h (.sl id ep off len) (.int .i64 i) (.sl jd cj oj 1) s ∧ eget s.env 7 = .int .i64 1 ∧ eget s.env 56 = .sl id ep off len ∧ eget s.env 59 = .int .i64 ((len + 1 : Nat) : Int)) ?_ hs9 ?_
    · simp [K3, g0, g1, g2, g3, g4, g5, g7, g8, hw1, okV, fV_eq]
    intro s10 a10 w10 S10 κ10 k10 hs10 st10
    have stF := stE.trans st10
    clear g0 g1 g2 g3 g4 g5 g7 g8 g31 hs9 stE
    obtain ⟨⟨g0, g1, g2, g3, g4, g5⟩, g7, g56, g59⟩ := k10
    have inv10 := hs10.inv
    rw [g2] at inv10
    have hk10 : κ10 id = some (.row ep b st cp 3) := by
      obtain ⟨b', st', cp', c', el', fr', q1, _⟩ := row_elem inv10 hi
      obtain ⟨k', q2, q3⟩ := st10.kle _ _ hk9
      rw [q1] at q2
      cases q2
      cases q3 with
      | same => exact q1
      | later _ _ _ _ _ _ _ _ _ hlt => omega
    have hu56 := eget_sound hs10.env 56
    rw [g56] at hu56
    have hu59 := eget_sound hs10.env 59
    rw [g59] at hu59
    simp only [RV] at hu59
    obtain ⟨b', st', cp', a', k1, k2, k3, k4, k5⟩ := sl_sound inv10 hi hu56
    rw [hk10] at k1
    cases k1
    have k5' : a' = ⟨b, (off - st) * 3, none⟩ := by
      rcases k5 with h | h
      · omega
      · exact h
    subst k5'
    refine op_hand (i := 4) rfl rfl (by simp) (v := .slice (some ⟨b, (off - st) * 3, none⟩) (len + 1) (st + cp - off)) (w' := w10) ?_ ?_
    · have : ∀ (o : Oper), o.op = .slice 66 (.tmp 56) none (some (.tmp 59)) none → execOp a10.eval o = (do pure (.value (← Instr.sliceAt 66 (a10.eval (.tmp 56)) none (some (a10.eval (.tmp 59))) none))) := by
        intro o h1
        simp [execOp, h1]
      rw [this _ rfl]
      have e56 : a10.eval (.tmp 56) = .slice (some ⟨b, (off - st) * 3, none⟩) len (st + cp - off) := k2
      have e59 : a10.eval (.tmp 59) = .int .i64 ((len + 1 : Nat) : Int) := hu59
      rw [e56, e59]
      have hr : (Instr.sliceBounds true len (st + cp - off) none (some (.int .i64 ((len + 1 : Nat) : Int))) none).run Try.prog w10 = .ok (0, len + 1, st + cp - off) w10 := by
        simp only [Instr.sliceBounds, Instr.sliceBound, asIntOf, Sem.run_bind, Sem.run_pure, Result.andThen_ok]
        rw [if_pos ⟨by omega, by omega⟩]
        simp
      have := slice_run (P := Try.prog) (t := 66) (e := 87) (n := 3) Try.underlying66 size87 (a := some ⟨b, (off - st) * 3, none⟩) w10 hr
      simp only [Sem.run_bind, this, Result.andThen_ok, Sem.run_pure, Option.map_some, add_off, Nat.zero_mul, Nat.add_zero, Nat.sub_zero]
      split <;> rfl
    have hrv : RV S10 w10 κ10 (.sl id ep off (len + 1)) (.slice (some ⟨b, (off - st) * 3, none⟩) (len + 1) (st + cp - off)) := by
      simp only [RV]
      exact ⟨ep, b, st, cp, 3, _, _, hk10, Nat.le_refl _, rfl, by omega, fun _ => ⟨by omega, by omega, rfl, .inr rfl⟩⟩
    have hs11 := SR_put hs10 hs10.inv (.refl B _ _ _) hrv (some 60)
    refine ops_part hcall [5] [⟨some 0, .mov (.t 60), none⟩] (by kernel_rfl)
      (q := fun s => K3 h (.sl id ep off (len + 1)) (.int .i64 i) (.sl jd cj oj 1) s ∧ eget s.env 7 = .int .i64 1) ?_ hs11 ?_
    · simp [K3, g0, g1, g2, g3, g4, g5, g7]
    intro s12 a12 w12 S12 κ12 k12 hs12 st12
    have stG := stF.trans st12
    clear g0 g1 g2 g3 g4 g5 g7 g56 g59 hs10 hs11 stF hu56 hu59 k2 inv10
    obtain ⟨⟨g0, g1, g2, g3, g4, g5⟩, g7⟩ := k12
    have hk12 : κ12 id = some (.row ep b st cp 3) := by
      have inv12 := hs12.inv
      rw [g2] at inv12
      obtain ⟨b', st', cp', c', el', fr', q1, _⟩ := row_elem inv12 hi
      obtain ⟨k', q2, q3⟩ := st12.kle _ _ hk10
      rw [q1] at q2
      cases q2
      cases q3 with
      | same => exact q1
      | later _ _ _ _ _ _ _ _ _ hlt => omega
    -- the two don't overlap
    have hwi : IntKind.i64.wrap ((i : Int) + 1) = ((i + 1 : Nat) : Int) := by rw [Ev.wrap64] <;> omega
    have hsl3 : sliceL h 3 (.sl id ep off (len + 1)) (some (.int .i64 ((i + 1 : Nat) : Int))) none = some (.sl id ep (off + (i + 1)) (len - i)) := by
      simp only [sliceL, hi, lohi, bound, true_and, if_true]
      rw [if_pos ⟨by omega, by omega⟩]
      simp
    refine wpIn_seq (wpIn_seq (wpIn_region ?_))
    refine ops_part hcall [0, 1, 2, 3, 4, 5] [⟨some 61, .mov (.t 2), none⟩, ⟨some 62, .mov (.t 0), none⟩, ⟨some 63, .mov (.t 1), none⟩, ⟨some 64, .mov (.t 7), none⟩, ⟨some 65, .bin .add (.t 63) (.t 64), none⟩, ⟨some 66, .slice .l 3 (.t 62) (some (.t 65)) none, none⟩] (by kernel_rfl)
      (q := fun s => K3 h (.sl id ep off (len + 1)) (.int .i64 i) (.sl jd cj oj 1) s ∧ eget s.env 7 = .int .i64 1 ∧ eget s.env 61 = .sl jd cj oj 1 ∧ eget s.env 66 = .sl id ep (off + (i + 1)) (len - i)) ?_ hs12 ?_
    · simp [K3, g0, g1, g2, g3, g4, g5, g7, hwi, sliceV, okV, fV_eq]
      rw [← Int.natCast_add_one, hsl3]
      simp [g0, g1, g2, g3, g4, g5, g7]
    intro s13 a13 w13 S13 κ13 k13 hs13 st13
    have stH := stG.trans st13
    clear g0 g1 g2 g3 g4 g5 g7 hs12 stG
    obtain ⟨⟨g0, g1, g2, g3, g4, g5⟩, g7, g61, g66⟩ := k13
    have inv13 := hs13.inv
    rw [g2] at inv13
    have hk13 : κ13 id = some (.row ep b st cp 3) := by
      obtain ⟨b', st', cp', c', el', fr', q1, _⟩ := row_elem inv13 hi
      obtain ⟨k', q2, q3⟩ := st13.kle _ _ hk12
      rw [q1] at q2
      cases q2
      cases q3 with
      | same => exact q1
      | later _ _ _ _ _ _ _ _ _ hlt => omega
    have hu61 := eget_sound hs13.env 61
    rw [g61] at hu61
    have hu66 := eget_sound hs13.env 66
    rw [g66] at hu66
    obtain ⟨b2, st2, cp2, a2', j1, j2, j3, j4, j5⟩ := sl_sound inv13 hj hu61
    obtain ⟨b3, st3', cp3, a3', l1, l2, l3, l4, l5⟩ := sl_sound inv13 hi hu66
    rw [hk13] at l1
    cases l1
    have j5' : a2' = ⟨b2, (oj - st2) * zj, none⟩ := by
      rcases j5 with h | h
      · omega
      · exact h
    subst j5'
    have l5' : a3' = ⟨b, (off + (i + 1) - st) * 3, none⟩ := by
      rcases l5 with h | h
      · omega
      · exact h
    subst l5'
    obtain ⟨b4, st4', cp4, cA, elA, frA, q1, q2, q3, q4, q5, q6, q7, q8, q9, q10, q11⟩ := row_elem inv13 hj
    rw [j1] at q1
    cases q1
    obtain ⟨b5, st5', cp5, cB, elB, frB, p1, p2, p3, p4, p5, p6, p7, p8, p9, p10, p11⟩ := row_elem inv13 hi
    rw [hk13] at p1
    cases p1
    have hz3 : zj = 3 := by rw [← (q8 e (List.mem_of_getElem? hye)).1]; exact he3
    have hbb : b2 ≠ b := fun hb => hne (inv13.dis _ _ _ _ j1 hk13 hb)
    have hfro : ∀ o, o < cA.size + 1 → w13.frozen? ⟨b2, o, none⟩ = false := by
      intro o ho
      simp only [World.frozen?, q2]
      have := q3.2 (by omega) o ho
      simp only [Bool.and_eq_false_iff, decide_eq_false_iff_not]
      omega
    have hov := Lib.run_overlaps_apart (P := Try.prog) w13 66 4 87 Try.underlying66 3 (fun w => sizeT_run size87 w) ⟨b2, (oj - st2) * zj, none⟩ ⟨b, (off + (i + 1) - st) * 3, none⟩ 1 (st2 + cp2 - oj) (len - i) (st + cp - (off + (i + 1))) hbb elA elB cA.size cB.size
      (by simp [World.shape?, q2]) (by simp [World.shape?, p2]) (by omega) (hfro _ (by
        have hoj := (List.getElem?_eq_some_iff.1 hye).1
        have : (oj - st2 + 1) * zj ≤ cp2 * zj := Nat.mul_le_mul_right _ (by omega)
        rw [Nat.succ_mul] at this
        omega)) (hfro _ (by omega))
    refine op_hand (i := 6) rfl rfl (by simp) (v := .bool false) (w' := w13) ?_ ?_
    · have hcf := run_callFunc_extern (P := Try.prog) (f := 52) Try.func52 (by kernel_rfl) (by kernel_rfl) (by kernel_rfl) (e := Extern.SlicesOverlaps.overlaps #[66, 66] #[4]) (by kernel_rfl) #[a13.eval (.tmp 61), a13.eval (.tmp 66)] w13
      have e61 : a13.eval (.tmp 61) = .slice (some ⟨b2, (oj - st2) * zj, none⟩) 1 (st2 + cp2 - oj) := j2
      have e66 : a13.eval (.tmp 66) = .slice (some ⟨b, (off + (i + 1) - st) * 3, none⟩) (len - i) (st + cp - (off + (i + 1))) := l2
      rw [e61, e66, hov] at hcf
      have : ∀ (o : Oper), o.op = .call { callee := .value (.func 52), args := #[.tmp 61, .tmp 66], argTypes := #[66, 66] } → (execOp a13.eval o).run Try.prog w13 = (callFunc 52 #[a13.eval (.tmp 61), a13.eval (.tmp 66)]).run Try.prog w13 := by
        intro o h1
        simp [execOp, h1, resolve, Act.eval, Deferred.ofValue, invoke]
      rw [this _ rfl, e61, e66, hcf]
      rfl
    have hs14 := SR_put hs13 hs13.inv (.refl B _ _ _) (x := .bool false) (v := .bool false) (by simp only [RV]) (some 67)
    refine ops_part hcall [7] [⟨some 68, .un .not (.t 67), none⟩] (by kernel_rfl)
      (q := fun s => K3 h (.sl id ep off (len + 1)) (.int .i64 i) (.sl jd cj oj 1) s ∧ eget s.env 7 = .int .i64 1 ∧ eget s.env 68 = .bool true) ?_ hs14 ?_
    · simp [K3, g0, g1, g2, g3, g4, g5, g7, okV, fV_eq]
    intro s15 a15 w15 S15 κ15 k15 hs15 st15
    have stI := stH.trans st15
    clear g0 g1 g2 g3 g4 g5 g7 g61 g66 hs13 hs14 stH hu61 hu66 inv13 q2 p2 hov
    obtain ⟨⟨g0, g1, g2, g3, g4, g5⟩, g7, g68⟩ := k15
    refine cond_yes hs15 rfl g68 ?_
    have hsl4 : sliceL h 3 (.sl id ep off (len + 1)) (some (.int .i64 i)) none = some (.sl id ep (off + i) (len + 1 - i)) := by
      simp only [sliceL, hi, lohi, bound, true_and, if_true]
      rw [if_pos ⟨by omega, by omega⟩]
      simp
    let xs1 := xs.take (off + (i + 1)) ++ (xs.drop (off + i)).take (len - i) ++ xs.drop (off + (i + 1) + (len - i))
    have hco : evCopy h 3 (.sl id ep (off + (i + 1)) (len - i)) (.sl id ep (off + i) (len + 1 - i)) = some (.int .i64 ((len - i : Nat) : Int), h.set id (.row 3 xs1 ep true)) := by
      have r1 : min (len + 1 - i) (len - i) = len - i := by omega
      have r2 : ¬ (len - i = 0) := by omega
      have r3 : szOk 3 ((xs.drop (off + i)).take (len - i)) = true := by
        rw [szOk_iff]
        exact fun e he => (p8 e (List.mem_of_mem_drop (List.mem_of_mem_take he))).1
      simp [evCopy, lenAny, lenV, r1, r2, fNat_eq, elemsTo, elemsOf, hi, show len - i ≤ len + 1 - i by omega, show off + i + (len - i) ≤ xs.length by omega, r3, show off + (i + 1) ≤ xs.length by omega, xs1]
    refine wpIn_seq ?_
    refine draw_part mixed hcall [⟨some 69, .mov (.t 0), none⟩, ⟨some 70, .mov (.t 1), none⟩, ⟨some 71, .mov (.t 7), none⟩, ⟨some 72, .bin .add (.t 70) (.t 71), none⟩, ⟨some 73, .slice .l 3 (.t 69) (some (.t 72)) none, none⟩, ⟨some 74, .mov (.t 0), none⟩, ⟨some 75, .mov (.t 1), none⟩, ⟨some 76, .slice .l 3 (.t 74) (some (.t 75)) none, none⟩, ⟨some 77, .copy 3 (.t 73) (.t 76), none⟩] (by kernel_rfl)
      [0, 1, 2, 3, 4, 5, 6, 7, 8] (by kernel_rfl) rfl (q := K3 (h.set id (.row 3 xs1 ep true)) (.sl id ep off (len + 1)) (.int .i64 i) (.sl jd cj oj 1)) ?_ hs15 ?_
    · simp [K3, g0, g1, g2, g3, g4, g5, g7, hwi, sliceV, hsl4, okV, fV_eq]
      rw [← Int.natCast_add_one, hsl3]
      simp [hsl4, hco, g0, g1, g2, g3, g4, g5, g7]
    intro s16 a16 w16 S16 κ16 k16 hs16 st16
    have stJ := stI.trans st16
    clear g0 g1 g2 g3 g4 g5 g7 hs15 stI
    obtain ⟨g0, g1, g2, g3, g4, g5⟩ := k16
    have hlt : id < h.length := (List.getElem?_eq_some_iff.1 hi).1
    have hi1 : (h.set id (.row 3 xs1 ep true))[id]? = some (.row 3 xs1 ep true) := List.getElem?_set_self hlt
    have hj1 : (h.set id (.row 3 xs1 ep true))[jd]? = some (.row zj ys cj wj) := by rw [List.getElem?_set_ne (Ne.symm hne)]; exact hj
    have hsl5 : sliceL (h.set id (.row 3 xs1 ep true)) 3 (.sl id ep off (len + 1)) (some (.int .i64 i)) none = some (.sl id ep (off + i) (len + 1 - i)) := by
      simp only [sliceL, hi1, lohi, bound, true_and, if_true]
      rw [if_pos ⟨by omega, by omega⟩]
      simp
    let xs2 := xs1.take (off + i) ++ [e] ++ xs1.drop (off + i + 1)
    have hx1l : off + len + 1 ≤ xs1.length := by simp [xs1]; omega
    have hco2 : evCopy (h.set id (.row 3 xs1 ep true)) 3 (.sl id ep (off + i) (len + 1 - i)) (.sl jd cj oj 1) = some (.int .i64 1, h.set id (.row 3 xs2 ep true)) := by
      have r1 : min 1 (len + 1 - i) = 1 := by omega
      have hoj := (List.getElem?_eq_some_iff.1 hye).1
      have r3 : (ys.drop oj).take 1 = [e] := by rw [List.take_one, List.head?_drop, hye]; rfl
      simp [evCopy, lenAny, lenV, r1, fNat_eq, elemsTo, elemsOf, hi1, hj1, show oj + 1 ≤ ys.length by omega, r3, szOk, he3, show off + i ≤ xs1.length by omega, xs2]
    refine wpIn_seq (wpIn_region ?_)
    refine ops_part hcall [0, 1, 2, 3, 4] [⟨some 78, .mov (.t 0), none⟩, ⟨some 79, .mov (.t 1), none⟩, ⟨some 80, .slice .l 3 (.t 78) (some (.t 79)) none, none⟩, ⟨some 81, .mov (.t 2), none⟩, ⟨some 82, .copy 3 (.t 80) (.t 81), none⟩] (by kernel_rfl)
      (q := K3 (h.set id (.row 3 xs2 ep true)) (.sl id ep off (len + 1)) (.int .i64 i) (.sl jd cj oj 1)) ?_ hs16 ?_
    · simp [K3, g0, g1, g2, g3, g4, g5, sliceV, hsl5, hco2, okV, fV_eq]
    intro s17 a17 w17 S17 κ17 k17 hs17 st17
    have stK := stJ.trans st17
    clear g0 g1 g2 g3 g4 g5 hs16 stJ
    obtain ⟨g0, g1, g2, g3, g4, g5⟩ := k17
    refine wpIn_seq (wpIn_region ?_)
    refine ops_part hcall [0, 1] [⟨some 83, .mov (.t 0), none⟩, ⟨some 6, .mov (.t 83), none⟩] (by kernel_rfl)
      (q := fun s => s.marks = [] ∧ s.heap = h.set id (.row 3 xs2 ep true) ∧ eget s.env 6 = .sl id ep off (len + 1)) ?_ hs17 ?_
    · simp [g0, g1, g2, g3, g4, g5]
    intro s18 a18 w18 S18 κ18 k18 hs18 st18
    have stL := stK.trans st18
    obtain ⟨m1, m2, m6⟩ := k18
    refine wpIn_ret ?_
    have hfin := fin_ret (F := Fence.wide) (n := n) (fn := Try.f29) (R := Ev.Ends Try.prog B S w κ (.sl id (ep + 1) off (len + 1)) ((h.set jd (.row zj ys cj false)).set id (.row 3 (xs.take (off + i) ++ [e] ++ (xs.drop (off + i)).take (len - i)) (ep + 1) true))) hs18 m1 (cr := [.tmp 6]) (by kernel_rfl) (vs := [.sl id ep off (len + 1)]) (by simp [evRes, m6]) (fun v hv => ?_)
    · exact hfin
    have inv18 := hs18.inv
    rw [m2] at inv18
    have hi2 : (h.set id (.row 3 xs2 ep true))[id]? = some (.row 3 xs2 ep true) := List.getElem?_set_self hlt
    obtain ⟨b9, st9, cp9, a9', v1, rfl, v3, v4, v5⟩ := sl_sound inv18 hi2 hv
    have hx2l : off + len + 1 ≤ xs2.length := by simp [xs2]; omega
    have inv19 := Inv.cut inv18 hi2 v1 (k := off + len + 1) (by omega) hx2l
    rw [List.set_set] at inv19
    have hi3 : (h.set id (.row 3 (xs2.take (off + len + 1)) ep true))[id]? = some (.row 3 (xs2.take (off + len + 1)) ep true) := List.getElem?_set_self hlt
    obtain ⟨inv20, st20⟩ := Inv.bump inv19 hi3 v1
    rw [List.set_set] at inv20
    have hj3 : (h.set id (.row 3 (xs2.take (off + len + 1)) (ep + 1) true))[jd]? = some (.row zj ys cj wj) := by rw [List.getElem?_set_ne (Ne.symm hne)]; exact hj
    have inv21 := Inv.still inv20 hj3
    have hrow : xs2.take (off + len + 1) = xs.take (off + i) ++ [e] ++ (xs.drop (off + i)).take (len - i) := by
      have u1 : xs1.take (off + i) = xs.take (off + i) := by
        simp only [xs1, List.append_assoc]
        rw [List.take_append_of_le_length (by simp; omega), List.take_take, Nat.min_eq_left (by omega)]
      have u2 : xs1.drop (off + i + 1) = (xs.drop (off + i)).take (len - i) ++ xs.drop (off + (i + 1) + (len - i)) := by
        simp only [xs1, List.append_assoc]
        exact List.drop_left' (by simp; omega)
      simp only [xs2, u1, u2]
      rw [← List.append_assoc]
      exact List.take_left' (by simp; omega)
    rw [hrow, List.set_comm _ _ (Ne.symm hne)] at inv21
    refine ⟨_, S18, _, rfl, inv21, stL.trans st20, ?_⟩
    simp only [RV]
    exact ⟨ep + 1, b9, st9, cp9, 3, _, _, upd_same _ _ _, Nat.le_refl _, rfl, by omega, fun _ => ⟨v3, v4, rfl, v5⟩⟩

theorem ins_body : BodyS Try.prog 29 primIns := by
  intro call hcall lf args us x h h' he B S w κ inv hr n
  have hop : ∀ (env : List V), evOp env h (.ins 3 24 (.t 0) (.t 1) (.t 2)) = evIns h 3 24 (eget env 0) (eget env 1) (eget env 2) := fun _ => rfl
  have hc : evOp (args ++ List.replicate (3 - args.length) V.non) h (.ins 3 24 (.t 0) (.t 1) (.t 2)) = none ∨ eget (args ++ List.replicate (3 - args.length) V.non) 2 ≠ V.non := by
    cases hv : evOp (args ++ List.replicate (3 - args.length) V.non) h (.ins 3 24 (.t 0) (.t 1) (.t 2)) with
    | none => exact .inl rfl
    | some r =>
      right
      rw [hop] at hv
      obtain ⟨z, h2⟩ := r
      obtain ⟨m, l, _, _, hh⟩ := evIns_some hv
      intro e
      rcases hh with ⟨_, ⟨k, hk⟩, _⟩ | ⟨_, id, ep, off, len, xs, jd, cj, oj, ys, zj, wj, e', _, _, hx, _⟩
      · rw [e] at hk; simp [V.non, lenV] at hk
      · rw [e] at hx; cases hx
  obtain ⟨p, d, r, pv, dv, rv, rfl, rfl, hp, hd, hx, he2⟩ := prim3 hr (by simp) hc he
  rw [hop] at he2
  obtain ⟨m, l, e1, hl, hh⟩ := evIns_some he2
  simp only [eget, List.getD_cons_zero, List.getD_cons_succ] at e1 hl hh
  subst e1
  rcases hh with ⟨rfl, ⟨k, hk⟩, ha⟩ | ⟨_, id, ep, off, len, xs, jd, cj, oj, ys, zj, wj, e', rfl, hi, rfl, hj, hye, h0, hlt, hol, hroom, he3, hne, hxs, hys, rfl, rfl⟩
  · exact ins_end hcall hl hk ha inv hp hd hx n
  · obtain ⟨i, rfl⟩ := Int.eq_ofNat_of_zero_le h0
    simp only [Int.toNat_natCast]
    exact ins_mid hcall hi hj hye (by omega) hol hroom he3 hne hxs hys inv hp hd hx n
end
end Go.Proofs.Lp
