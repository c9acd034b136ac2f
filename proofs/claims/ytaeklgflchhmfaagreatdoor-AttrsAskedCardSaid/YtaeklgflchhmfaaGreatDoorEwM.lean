/- Operations that may change places. Regions whose order is open, by few of their orders. No conditions. -/
import Derived.Test.YtaeklgflchhmfaaGreatDoorEwK
set_option maxHeartbeats 16000000
set_option maxRecDepth 100000
set_option linter.unusedVariables false
set_option linter.unusedSimpArgs false
set_option linter.unusedSectionVars false
namespace Go.Ev
def odU : Od → List Nat
 | .t i => [i]
 | .c _ => []
def odsU (l : List Od) : List Nat := (l.map odU).flatten
def oodU (o : Option Od) : List Nat := (o.map odU).getD []
def usesOp : Cop → List Nat
 | .mov x | .box x | .load _ x | .un _ x | .conv _ x | .field _ _ x | .faddr _ x | .ext x _ | .mki _ x | .len _ x | .nilchk x | .clr _ _ x | .atld _ x | .onceOut x | .cln _ _ x | .rngs x | .nxt x | .inil _ x => odU x
 | .pick a b c | .mapup _ a b c | .entst a b c | .ins _ _ a b c => odU a ++ (odU b ++ odU c)
 | .alloc _ | .mkm | .halt | .resv _ | .allocD _ _ => []
 | .build _ ps => odsU (ps.map (·.2.2))
 | .bslice _ _ _ ps => odsU (ps.map (·.2))
 | .store _ x y | .bin _ x y | .eqc _ _ x y | .eqn _ _ x y | .iaddr _ x y | .iaddrA _ _ x y | .idxS x y | .idxA _ _ _ x y | .mks _ _ _ x y | .look _ _ _ x y | .mapent _ _ x y | .app _ _ x y | .copy _ x y | .del _ x y
 | .atadd _ x y | .atst _ x y | .onceIn x y => odU x ++ odU y
 | .slice _ _ x lo hi => odU x ++ (oodU lo ++ oodU hi)
 | .slice3 x lo hi mx => odU x ++ (oodU lo ++ (odU hi ++ odU mx))
 | .mkf _ a b => odsU a ++ odsU b
 | .mx xs | .mn xs | .prim _ xs => odsU xs
 | .call f as => odU f ++ odsU as
def isP : Cop → Bool
 | .mov _ | .pick .. | .build .. | .bin .. | .un .. | .field .. | .faddr .. | .iaddrA .. | .idxS .. | .idxA .. | .ext .. | .mki .. | .mkf .. | .nilchk _ | .mx _ | .mn _ | .eqc .. | .eqn .. | .inil .. => true
 | .conv (.int _) _ | .conv .same _ => true
 | .len .l _ | .len .s _ => true
 | _ => false
def isR : Cop → Bool
 | .load .. | .len .. | .iaddr .. | .slice .. | .slice3 .. | .look .. => true
 | _ => false
def isA : Cop → Bool
 | .alloc _ | .box _ | .bslice .. | .mkm | .mks .. => true
 | _ => false
section
variable {call : CallF} {h : Heap}
theorem qZP {env env' : List V} {x : Od} (hh : ∀ i ∈ odU x, eget env i = eget env' i) : x.ev env = x.ev env' := by
 cases x with
 | t i => exact hh i (by simp [odU])
 | c v => rfl
theorem wZe {env env' : List V} : ∀ {l : List Od}, (∀ i ∈ odsU l, eget env i = eget env' i) → evs env l = evs env' l
 | [], _ => rfl
 | x :: l, hh => by
  simp only [evs, List.map_cons]
  rw [qZP (fun i hi => hh i (by simp [odsU]; exact .inl hi))]
  congr 1
  exact wZe (l := l) (fun i hi => hh i (by simp only [odsU, List.map_cons, List.flatten_cons, List.mem_append]; exact .inr hi))
theorem xZh {env env' : List V} {x : Option Od} (hh : ∀ i ∈ oodU x, eget env i = eget env' i) : x.map (·.ev env) = x.map (·.ev env') := by
 cases x with
 | none => rfl
 | some x => simp only [Option.map_some]; rw [qZP (fun i hi => hh i (by simpa [oodU] using hi))]
theorem jZl {env env' : List V} {β : Type} (g : β → Od) : ∀ {l : List β}, (∀ i ∈ odsU (l.map g), eget env i = eget env' i) → ∀ p ∈ l, (g p).ev env = (g p).ev env'
 | [], _, p, hp => by simp at hp
 | x :: l, hh, p, hp => by
  rcases List.mem_cons.1 hp with rfl | hp
  ·exact qZP (fun i hi => hh i (by simp only [odsU, List.map_cons, List.flatten_cons, List.mem_append]; exact .inl hi))
  ·exact jZl g (l := l) (fun i hi => hh i (by simp only [odsU, List.map_cons, List.flatten_cons, List.mem_append]; exact .inr hi)) p hp
theorem op_congr {env env' : List V} {op : Cop} (hh : ∀ i ∈ usesOp op, eget env i = eget env' i) : evOpC call env h op = evOpC call env' h op := by
 have two : ∀ {x y : Od}, (∀ i ∈ odU x ++ odU y, eget env i = eget env' i) → x.ev env = x.ev env' ∧ y.ev env = y.ev env' := fun hh => ⟨qZP fun i hi => hh i (by simp [hi]), qZP fun i hi => hh i (by simp [hi])⟩
 have three : ∀ {x y z : Od}, (∀ i ∈ odU x ++ (odU y ++ odU z), eget env i = eget env' i) → x.ev env = x.ev env' ∧ y.ev env = y.ev env' ∧ z.ev env = z.ev env' := fun hh =>
  ⟨qZP fun i hi => hh i (by simp [hi]), qZP fun i hi => hh i (by simp [hi]), qZP fun i hi => hh i (by simp [hi])⟩
 cases op
 case build z ps =>
  simp only [eo_build]
  congr 1
  refine List.map_congr_left fun p hp => ?_
  rw [jZl (fun p : Nat × Nat × Od => p.2.2) hh p hp]
 case bslice z n s ps =>
  simp only [kZ0]
  congr 1
  refine List.map_congr_left fun p hp => ?_
  rw [jZl (fun p : Nat × Od => p.2) hh p hp]
 case slice k z x lo hi =>
  have h1 := qZP (x := x) (fun i hi => hh i (by simp [usesOp, hi]))
  have h2 := xZh (x := lo) (fun i hi => hh i (by simp [usesOp, hi]))
  have h3 := xZh (x := hi) (fun i hi => hh i (by simp [usesOp, hi]))
  simp only [eo_slice, h1, h2, h3]
 case slice3 x lo hi mx =>
  have h1 := qZP (x := x) (fun i hi => hh i (by simp [usesOp, hi]))
  have h2 := xZh (x := lo) (fun i hi => hh i (by simp [usesOp, hi]))
  have h3 := qZP (x := hi) (fun i hi => hh i (by simp [usesOp, hi]))
  have h4 := qZP (x := mx) (fun i hi => hh i (by simp [usesOp, hi]))
  simp only [kZ3, h1, h2, h3, h4]
 case mkf f a b =>
  have h1 := wZe (l := a) (fun i hi => hh i (by simp only [usesOp, List.mem_append]; exact .inl hi))
  have h2 := wZe (l := b) (fun i hi => hh i (by simp only [usesOp, List.mem_append]; exact .inr hi))
  simp only [eo_mkf, h1, h2]
 case inil => simp only [eo_inil, qZP hh]
 case halt => rfl
 case resv => rfl
 case allocD => rfl
 case prim p xs => simp only [eo_prim, wZe hh]
 case mx xs => simp only [eo_mx, wZe hh]
 case mn xs => simp only [eo_mn, wZe hh]
 case call f a =>
  have h1 := qZP (x := f) (fun i hi => hh i (by simp only [usesOp, List.mem_append]; exact .inl hi))
  have h2 := wZe (l := a) (fun i hi => hh i (by simp only [usesOp, List.mem_append]; exact .inr hi))
  simp only [eo_call, h1, h2]
 case alloc => rfl
 case mkm => rfl
 case pick => obtain ⟨h1, h2, h3⟩ := three hh; simp only [eo_pick, evPick, h1, h2, h3]
 case mapup => obtain ⟨h1, h2, h3⟩ := three hh; simp only [eo_mapup, h1, h2, h3]
 case entst => obtain ⟨h1, h2, h3⟩ := three hh; simp only [eo_entst, h1, h2, h3]
 case ins => obtain ⟨h1, h2, h3⟩ := three hh; simp only [eo_ins, h1, h2, h3]
 case mov => simp only [eo_mov, qZP hh]
 case cln => simp only [eo_cln, qZP hh]
 case box => simp only [eo_box, qZP hh]
 case rngs => simp only [eo_rngs, qZP hh]
 case nxt => simp only [eo_nxt, qZP hh]
 case load => simp only [eo_load, qZP hh]
 case un => simp only [eo_un, qZP hh]
 case conv => simp only [eo_conv, qZP hh]
 case field => simp only [eo_field, qZP hh]
 case faddr => simp only [eo_faddr, qZP hh]
 case ext => simp only [eo_ext, qZP hh]
 case mki => simp only [eo_mki, qZP hh]
 case len => simp only [eo_len, qZP hh]
 case nilchk => simp only [kZ2, qZP hh]
 case clr => simp only [eo_clr, qZP hh]
 case atld => simp only [eo_atld, qZP hh]
 case onceOut => simp only [xZW, qZP hh]
 case store => obtain ⟨h1, h2⟩ := two hh; simp only [eo_store, h1, h2]
 case bin => obtain ⟨h1, h2⟩ := two hh; simp only [eo_bin, h1, h2]
 case eqc => obtain ⟨h1, h2⟩ := two hh; simp only [eo_eqc, h1, h2]
 case eqn => obtain ⟨h1, h2⟩ := two hh; simp only [eo_eqn, h1, h2]
 case iaddr => obtain ⟨h1, h2⟩ := two hh; simp only [eo_iaddr, h1, h2]
 case iaddrA => obtain ⟨h1, h2⟩ := two hh; simp only [kZ1, h1, h2]
 case idxS => obtain ⟨h1, h2⟩ := two hh; simp only [eo_idxS, h1, h2]
 case idxA => obtain ⟨h1, h2⟩ := two hh; simp only [eo_idxA, h1, h2]
 case mks => obtain ⟨h1, h2⟩ := two hh; simp only [eo_mks, h1, h2]
 case look => obtain ⟨h1, h2⟩ := two hh; simp only [eo_look, h1, h2]
 case mapent => obtain ⟨h1, h2⟩ := two hh; simp only [eo_mapent, h1, h2]
 case app => obtain ⟨h1, h2⟩ := two hh; simp only [eo_app, h1, h2]
 case copy => obtain ⟨h1, h2⟩ := two hh; simp only [eo_copy, h1, h2]
 case del => obtain ⟨h1, h2⟩ := two hh; simp only [eo_del, h1, h2]
 case atadd => obtain ⟨h1, h2⟩ := two hh; simp only [eo_atadd, h1, h2]
 case atst => obtain ⟨h1, h2⟩ := two hh; simp only [eo_atst, h1, h2]
 case onceIn => obtain ⟨h1, h2⟩ := two hh; simp only [eo_onceIn, h1, h2]
theorem okV_P {v : V} {h' : Heap} {o : Option V} (he : okV h o = some (v, h')) : h' = h ∧ ∀ h2, okV h2 o = some (v, h2) := by
 obtain ⟨rfl, rfl⟩ := qZQ he
 exact ⟨rfl, fun h2 => by simp [okV, fV_eq]⟩
theorem xZf {v : V} {h' : Heap} {ag : Option Nat} {cs : Option (List V)} (he : okCells h ag cs = some (v, h')) : h' = h ∧ ∀ h2, okCells h2 ag cs = some (v, h2) := by
 cases cs with
 | none => simp [okCells] at he
 | some cs =>
  cases ag with
  | none =>
   cases cs with
   | nil => simp [okCells] at he
   | cons c cs => simp only [okCells, Option.some.injEq, Prod.mk.injEq] at he ⊢; obtain ⟨rfl, rfl⟩ := he; exact ⟨rfl, fun h2 => by simp⟩
  | some n =>
   simp only [okCells, fS_eq] at he ⊢
   obtain ⟨hn, he⟩ := zZN he
   simp only [Option.some.injEq, Prod.mk.injEq] at he
   obtain ⟨rfl, rfl⟩ := he
   exact ⟨rfl, fun h2 => by simp [hn]⟩
theorem op_P {env : List V} {op : Cop} (hp : isP op = true) {v : V} {h' : Heap} (he : evOpC call env h op = some (v, h')) : h' = h ∧ ∀ h2, evOpC call env h2 op = some (v, h2) := by
 have triv : ∀ {x : V}, some (x, h) = some (v, h') → h' = h ∧ ∀ h2 : Heap, some (x, h2) = some (v, h2) := fun e => by
  simp only [Option.some.injEq, Prod.mk.injEq] at e
  obtain ⟨rfl, rfl⟩ := e
  exact ⟨rfl, fun _ => rfl⟩
 cases op <;> simp only [isP, reduceCtorEq] at hp
 case mov => exact triv he
 case pick c a b =>
  simp only [eo_pick, evPick] at he ⊢
  split at he
  ·rename_i t ht
   try rw [ht]
   cases t <;> exact triv he
  ·cases he
 case build z ps =>
  simp only [eo_build, evBuild] at he ⊢
  split at he
  ·rename_i cs hcs
   try rw [hcs]
   simp only [fS_eq] at he ⊢
   exact triv he
  ·cases he
 case bin => exact okV_P he
 case eqc neg d x y =>
  simp only [eo_eqc, evEqc] at he ⊢
  split at he
  ·rename_i r hr; (try rw [hr]); exact okV_P he
  ·cases he
 case eqn k neg x y =>
  simp only [eo_eqn, evEqn] at he ⊢
  split at he
  ·rename_i r hr; (try rw [hr]); exact okV_P he
  ·cases he
 case inil neg x =>
  simp only [eo_inil, evInil] at he ⊢
  split at he
  ·rename_i hx; (try rw [hx]); exact triv he
  ·rename_i t y hx; (try rw [hx]); exact triv he
  ·cases he
 case un => exact okV_P he
 case conv d x =>
  cases d <;> simp only [isP, reduceCtorEq] at hp
  ·simp only [eo_conv, evConv] at he ⊢
   split at he
   ·rename_i q n hx; (try rw [hx]); exact okV_P he
   ·cases he
  ·simp only [eo_conv, evConv] at he ⊢
   split at he
   ·rename_i s hx; (try rw [hx]); exact triv he
   ·cases he
 case field off ag x =>
  simp only [eo_field, evField] at he ⊢
  split at he
  ·rename_i cs hx; (try rw [hx]); exact xZf he
  ·cases he
 case faddr => exact okV_P he
 case iaddrA n z x i =>
  simp only [kZ1, evIaddrA] at he ⊢
  split at he
  ·rename_i q m hx
   try rw [hx]
   obtain ⟨hc, he⟩ := zZN he
   obtain ⟨e1, e2⟩ := okV_P he
   exact ⟨e1, fun h2 => by first | (simp only [if_pos hc]; exact e2 h2) | exact e2 h2⟩
  ·cases he
 case idxS x i =>
  simp only [eo_idxS, evIdxS] at he ⊢
  split at he
  ·rename_i s hs
   split at he
   ·rename_i q m hx
    obtain ⟨hc, he⟩ := zZN he
    split at he
    ·rename_i b hb
     obtain ⟨e1, e2⟩ := okV_P he
     exact ⟨e1, fun h2 => by first | (simp only [hs, hx, if_pos hc, hb]; exact e2 h2) | (simp only [if_pos hc, hb]; exact e2 h2) | (simp only [if_pos hc]; exact e2 h2)⟩
    ·cases he
   ·cases he
  ·cases he
 case idxA n z ag x i =>
  simp only [eo_idxA, evIdxA] at he ⊢
  split at he
  ·rename_i cs hs
   split at he
   ·rename_i q m hx
    obtain ⟨hc, he⟩ := zZN he
    obtain ⟨e1, e2⟩ := xZf he
    exact ⟨e1, fun h2 => by first | (simp only [hs, hx, if_pos hc]; exact e2 h2) | (simp only [if_pos hc]; exact e2 h2)⟩
   ·cases he
  ·cases he
 case ext x i =>
  simp only [eo_ext, evExt] at he ⊢
  split at he
  ·rename_i vs hs
   split at he
   ·rename_i v' hv
    try rw [hs]
    first | (simp only [hv]; exact triv he) | exact triv he
   ·cases he
  ·cases he
 case mki => exact triv he
 case mkf f a b => simp only [eo_mkf, fS_eq] at he ⊢; exact triv he
 case len k x =>
  have hl : ∀ h2, lenV .l h2 (x.ev env) = lenV .l h (x.ev env) := fun h2 => by cases x.ev env <;> rfl
  have hs : ∀ h2, lenV .s h2 (x.ev env) = lenV .s h (x.ev env) := fun h2 => by cases x.ev env <;> rfl
  cases k <;> simp only [isP, reduceCtorEq] at hp
  ·simp only [eo_len, evLen] at he ⊢
   simp only [hl]
   cases hn : lenV .l h (x.ev env) with
   | none => rw [hn] at he; cases he
   | some n => rw [hn] at he; simp only [qZ5] at he ⊢; exact triv he
  ·simp only [eo_len, evLen] at he ⊢
   simp only [hs]
   cases hn : lenV .s h (x.ev env) with
   | none => rw [hn] at he; cases he
   | some n => rw [hn] at he; simp only [qZ5] at he ⊢; exact triv he
 case mx => exact okV_P he
 case mn => exact okV_P he
 case nilchk x =>
  simp only [kZ2, evNilchk] at he ⊢
  split at he
  ·rename_i hx; (try rw [hx]); exact triv he
  ·rename_i hx; (try rw [hx]); exact triv he
  ·rename_i hx; (try rw [hx]); exact triv he
  ·rename_i hx
   split at he
   ·(try rw [hx]); exact triv he
   ·(try rw [hx]); exact triv he
   ·cases he
  ·cases he
theorem vZ4 {id : Nat} {x o : Ob} (hi : h[id]? = some x) : (h ++ [o])[id]? = some x := by
 rw [List.getElem?_append_left (List.getElem?_eq_some_iff.1 hi).1]
 exact hi
theorem op_R {env : List V} {op : Cop} (hp : isR op = true) {v : V} {h' : Heap} (he : evOpC call env h op = some (v, h')) : h' = h ∧ ∀ o, evOpC call env (h ++ [o]) op = some (v, h ++ [o]) := by
 have triv : ∀ {x : V}, some (x, h) = some (v, h') → h' = h ∧ ∀ o : Ob, some (x, h ++ [o]) = some (v, h ++ [o]) := fun e => by
  simp only [Option.some.injEq, Prod.mk.injEq] at e
  obtain ⟨rfl, rfl⟩ := e
  exact ⟨rfl, fun _ => rfl⟩
 cases op <;> simp only [isR, reduceCtorEq] at hp
 case load ag x =>
  simp only [eo_load] at he ⊢
  cases hc : cellsAt h (x.ev env) with
  | none => rw [hc] at he; simp [okCells] at he
  | some cs =>
   rw [hc] at he
   obtain ⟨e1, e2⟩ := xZf he
   refine ⟨e1, fun o => ?_⟩
   have : cellsAt (h ++ [o]) (x.ev env) = some cs := by
    revert hc
    unfold cellsAt
    split
    ·split
     ·rename_i hi; rw [vZ4 hi]; exact fun h => h
     ·intro h; cases h
    ·split
     ·rename_i hi; rw [vZ4 hi]; exact fun h => h
     ·intro h; cases h
    ·exact fun h => h
    ·intro h; cases h
   rw [this]
   exact e2 _
 case len k x =>
  simp only [eo_len, evLen] at he ⊢
  cases hn : lenV k h (x.ev env) with
  | none => rw [hn] at he; cases he
  | some n =>
   rw [hn] at he
   simp only [qZ5] at he ⊢
   have : ∀ o, lenV k (h ++ [o]) (x.ev env) = some n := by
    intro o
    rw [← hn]
    cases k <;> cases hx : x.ev env <;> (try rfl)
    rename_i id
    rw [hx] at hn
    simp only [lenV] at hn ⊢
    cases hi : h[id]? with
    | none => rw [hi] at hn; cases hn
    | some ob => rw [vZ4 hi]
   simp only [this]
   exact triv he
 case iaddr z x i =>
  simp only [eo_iaddr] at he ⊢
  obtain ⟨e1, e2⟩ := qZQ he
  refine ⟨e2, fun o => ?_⟩
  have : iaddrV (h ++ [o]) z (x.ev env) (i.ev env) = some v := by
   rw [← e1]
   unfold iaddrV
   unfold iaddrV at e1
   split at e1
   ·split at e1
    ·rfl
    ·rename_i hx
     try rw [hx]
     obtain ⟨hc, e1⟩ := zZN e1
     split at e1
     ·rename_i hi
      simp only [if_pos hc, hi, vZ4 hi]
     ·cases e1
    ·cases e1
   ·cases e1
  rw [this]
  simp [okV, fV_eq]
 case slice k z x lo hi =>
  simp only [eo_slice] at he ⊢
  obtain ⟨e1, e2⟩ := qZQ he
  refine ⟨e2, fun o => ?_⟩
  have : sliceV k (h ++ [o]) z (x.ev env) (lo.map (·.ev env)) (hi.map (·.ev env)) = some v := by
   rw [← e1]
   cases k <;> simp only [sliceV] at e1 ⊢
   unfold sliceL
   unfold sliceL at e1
   split at e1
   ·rfl
   ·rfl
   ·rfl
   ·rename_i hx
    try rw [hx]
    split at e1
    ·rename_i hi
     simp only [hi, vZ4 hi]
    ·cases e1
   ·cases e1
  rw [this]
  simp [okV, fV_eq]
 case slice3 x lo hi mx =>
  simp only [kZ3, evSl3] at he ⊢
  have hl : ∀ o, lenV .l (h ++ [o]) (x.ev env) = lenV .l h (x.ev env) := fun o => by cases x.ev env <;> rfl
  simp only [hl]
  split at he
  ·rename_i n hn
   split at he
   ·rename_i m hm
    split at he
    ·rename_i p hq
     obtain ⟨e1, e2⟩ := triv he
     exact ⟨e1, fun o => by first | (simp only [hn, hm, hq]; exact e2 o) | exact e2 o⟩
    ·cases he
   ·cases he
  ·cases he
 case look ks ok z m k =>
  simp only [eo_look, evLook] at he ⊢
  obtain ⟨hk, he⟩ := zZN he
  have fnd : ∀ {x : V} {b : Bool}, found ok x b h = some (v, h') → h' = h ∧ ∀ o, found ok x b (h ++ [o]) = some (v, h ++ [o]) := by
   intro x b e
   unfold found at e ⊢
   cases ok <;> exact triv e
  split at he
  ·rename_i hm
   obtain ⟨e1, e2⟩ := fnd he
   exact ⟨e1, fun o => by first | (simp only [if_pos hk, hm]; exact e2 o) | (simp only [if_pos hk]; exact e2 o)⟩
  ·rename_i hm
   split at he
   ·rename_i hi
    split at he
    ·rename_i hf
     obtain ⟨e1, e2⟩ := fnd he
     exact ⟨e1, fun o => by first | (simp only [if_pos hk, hm, vZ4 hi, hf]; exact e2 o) | (simp only [if_pos hk, vZ4 hi, hf]; exact e2 o)⟩
    ·rename_i hf
     obtain ⟨e1, e2⟩ := fnd he
     exact ⟨e1, fun o => by first | (simp only [if_pos hk, hm, vZ4 hi, hf]; exact e2 o) | (simp only [if_pos hk, vZ4 hi, hf]; exact e2 o)⟩
    ·cases he
   ·cases he
  ·cases he
theorem op_A {env : List V} {op : Cop} (hp : isA op = true) {v : V} {h' : Heap} (he : evOpC call env h op = some (v, h')) : ∃ o, h' = h ++ [o] := by
 have new : ∀ {x : V} {o : Ob}, newOb h x o = some (v, h') → ∃ o, h' = h ++ [o] := fun e => by
  simp only [qZ4, Option.some.injEq, Prod.mk.injEq] at e
  exact ⟨_, e.2.symm⟩
 cases op <;> simp only [isA, reduceCtorEq] at hp
 case alloc => simp only [eo_alloc] at he; exact new he
 case box =>
  simp only [eo_box, evBox] at he
  obtain ⟨_, he⟩ := zZN he
  exact new he
 case bslice =>
  simp only [kZ0, evBslice] at he
  split at he
  ·exact new he
  ·cases he
 case mkm => simp only [eo_mkm] at he; exact new he
 case mks =>
  simp only [eo_mks, evMks] at he
  split at he
  ·split at he
   ·obtain ⟨_, he⟩ := zZN he
    simp only [qZ5] at he
    exact new he
   ·cases he
  ·cases he
def act (call : CallF) (o : Cp) (s : St) : VH :=
 match wanted s.env o.guard with
 | some true => evOpC call s.env s.heap o.op
 | some false => some (V.non, s.heap)
 | none => none
theorem cp_act (o : Cp) (s : St) : evCp call o s = (match act call o s with
  | some (v, h) => some { s with env := putV s.env o.dst v, heap := h }
  | none => none) := by
 unfold evCp act
 cases hw : wanted s.env o.guard with
 | none => rfl
 | some b =>
  cases b with
  | false => rfl
  | true =>
   simp only
   cases hop : o.op <;> simp only [evOpC, fS_eq] <;> rfl
def guardU : Option (Nat × Bool) → List Nat
 | none => []
 | some (j, _) => [j]
def usesCp (o : Cp) : List Nat := guardU o.guard ++ usesOp o.op
def offB (d : Option Nat) (us : List Nat) : Bool :=
 match d with
 | some d => !us.contains d
 | none => true
def apartB (d d' : Option Nat) : Bool :=
 match d with
 | some a =>
  match d' with
  | some b => a != b
  | none => true
 | none => true
def commB (o p : Cp) : Bool :=
 (isP o.op || (isR o.op && (isP p.op || isR p.op || isA p.op))) && offB o.dst (usesCp p) && offB p.dst (usesCp o) && apartB o.dst p.dst
theorem eget_putV {env : List V} {d : Option Nat} {v : V} {us : List Nat} (hd : offB d us = true) {i : Nat} (hi : i ∈ us) : eget (putV env d v) i = eget env i := by
 cases d with
 | none => rfl
 | some d =>
  have : d ≠ i := by
   rintro rfl
   simp [offB, hi] at hd
  exact kZX this
theorem act_congr {o : Cp} {s s' : St} (hh : ∀ i ∈ usesCp o, eget s.env i = eget s'.env i) (hheap : s.heap = s'.heap) : act call o s = act call o s' := by
 unfold act
 have hw : wanted s.env o.guard = wanted s'.env o.guard := by
  unfold wanted
  cases hg : o.guard with
  | none => rfl
  | some jw =>
   obtain ⟨j, w⟩ := jw
   simp only
   rw [hh j (by simp [usesCp, hg, guardU])]
 rw [hw, hheap, op_congr (op := o.op) (env := s.env) (env' := s'.env) (fun i hi => hh i (by simp [usesCp, hi]))]
theorem comm_sound {o p : Cp} (hc : commB o p = true) {s s1 s2 : St} (h1 : evCp call o s = some s1) (h2 : evCp call p s1 = some s2) : ∃ s', evCp call p s = some s' ∧ evCp call o s' = some s2 := by
 simp only [commB, Bool.and_eq_true] at hc
 obtain ⟨⟨⟨hk, ho⟩, hp⟩, hd⟩ := hc
 rw [cp_act] at h1
 split at h1
 case h_2 => cases h1
 rename_i v1 k1 a1
 simp only [Option.some.injEq] at h1
 subst h1
 rw [cp_act] at h2
 split at h2
 case h_2 => cases h2
 rename_i v2 k2 a2
 simp only [Option.some.injEq] at h2
 subst h2
 have hheap : k1 = s.heap ∧ (∀ s' : St, (∀ i ∈ usesCp o, eget s'.env i = eget s.env i) → s'.heap = k2 → act call o s' = some (v1, k2)) := by
  have hone : k1 = s.heap := by
   unfold act at a1
   split at a1
   ·rcases Bool.or_eq_true _ _ ▸ hk with hk | hk
    ·exact (op_P hk a1).1
    ·simp only [Bool.and_eq_true] at hk
     exact (op_R hk.1 a1).1
   ·simp only [Option.some.injEq, Prod.mk.injEq] at a1; exact a1.2.symm
   ·cases a1
  subst hone
  refine ⟨rfl, fun s' hs hs2 => ?_⟩
  have hcg : act call o s' = act call o { s' with env := s.env } := act_congr (fun i hi => hs i hi) rfl
  rw [hcg]
  unfold act at a1 ⊢
  simp only
  cases hw : wanted s.env o.guard with
  | none => rw [hw] at a1; cases a1
  | some b =>
   rw [hw] at a1
   cases b with
   | false =>
    simp only [Option.some.injEq, Prod.mk.injEq] at a1 ⊢
    exact ⟨a1.1, hs2⟩
   | true =>
    simp only at a1 ⊢
    rw [hs2]
    rcases Bool.or_eq_true _ _ ▸ hk with hk | hk
    ·exact (op_P hk a1).2 k2
    ·simp only [Bool.and_eq_true, Bool.or_eq_true] at hk
     obtain ⟨hr, hk⟩ := hk
     obtain ⟨_, hmono⟩ := op_R hr a1
     have hk2 : k2 = s.heap ∨ ∃ q, k2 = s.heap ++ [q] := by
      unfold act at a2
      split at a2
      ·rcases hk with (hk | hk) | hk
       ·exact .inl (op_P hk a2).1
       ·exact .inl (op_R hk a2).1
       ·exact .inr (op_A hk a2)
      ·simp only [Option.some.injEq, Prod.mk.injEq] at a2; exact .inl a2.2.symm
      ·cases a2
     rcases hk2 with rfl | ⟨q, rfl⟩
     ·exact a1
     ·exact hmono q
 obtain ⟨rfl, hact⟩ := hheap
 have b2 : act call p s = some (v2, k2) := by
  rw [← a2]
  exact act_congr (fun i hi => (eget_putV ho hi).symm) rfl
 refine ⟨{ s with env := putV s.env p.dst v2, heap := k2 }, by rw [cp_act, b2], ?_⟩
 rw [cp_act, hact _ (fun i hi => eget_putV hp hi) rfl]
 simp only [Option.some.injEq]
 congr 1
 cases hod : o.dst with
 | none => rfl
 | some d =>
  cases hpd : p.dst with
  | none => rfl
  | some d' =>
   rw [hod, hpd] at hd
   simp only [apartB, bne_iff_ne, ne_eq] at hd
   simp only [putV]
   rw [List.set_comm _ _ (Ne.symm hd)]
end
def desc (af : List (List Nat)) (j : Nat) : List Nat :=
 (List.range af.length).foldl (fun acc k => if (af.getD k []).any (fun m => m == j || acc.contains m) then k :: acc else acc) []
inductive Dep (af : List (List Nat)) (j : Nat) : Nat → Prop where
 | one (k : Nat) : j ∈ af.getD k [] → Dep af j k
 | step (k m : Nat) : m ∈ af.getD k [] → Dep af j m → Dep af j k
theorem desc_dep {af : List (List Nat)} {j : Nat} : ∀ k ∈ desc af j, Dep af j k := by
 unfold desc
 have : ∀ (l : List Nat) (acc : List Nat), (∀ k ∈ acc, Dep af j k) → ∀ k ∈ l.foldl (fun acc k => if (af.getD k []).any (fun m => m == j || acc.contains m) then k :: acc else acc) acc, Dep af j k := by
  intro l
  induction l with
  | nil => intro acc h; exact h
  | cons a l ih =>
   intro acc h
   refine ih _ (fun k hk => ?_)
   simp only at hk
   split at hk
   ·rename_i hany
    rcases List.mem_cons.1 hk with rfl | hk
    ·rw [List.any_eq_true] at hany
     obtain ⟨m, hm, h2⟩ := hany
     simp only [Bool.or_eq_true, beq_iff_eq, List.contains_eq_mem, decide_eq_true_eq] at h2
     rcases h2 with rfl | h2
     ·exact .one _ hm
     ·exact .step _ m hm (h m h2)
    ·exact h k hk
   ·exact h k hk
 exact this _ [] (by simp)
def freeAt (ops : List Cp) (af : List (List Nat)) (listed : List Bool) (j : Nat) : Bool :=
 match ops[j]? with
 | some o => (List.range ops.length).all fun k => listed.getD k true || k == j || (desc af j).contains k || (match ops[k]? with | some p => commB o p | none => true)
 | none => false
def orders2 (ops : List Cp) (af : List (List Nat)) : Nat → List Bool → Option (List (List Nat))
 | 0, listed => if readyL ops.length af listed = [] then some [[]] else none
 | f + 1, listed =>
  match readyL ops.length af listed with
  | [] => some [[]]
  | i :: is =>
   match (i :: is).find? (freeAt ops af listed) with
   | some j => (orders2 ops af f (listed.set j true)).map fun ls => ls.map (j :: ·)
   | none => ((i :: is).mapM fun j => (orders2 ops af f (listed.set j true)).map fun ls => ls.map (j :: ·)).map List.flatten
def Ext (n : Nat) (af : List (List Nat)) : List Bool → List Nat → Prop
 | listed, [] => readyL n af listed = []
 | listed, j :: seq => j ∈ readyL n af listed ∧ Ext n af (listed.set j true) seq
def Closed (af : List (List Nat)) (listed : List Bool) : Prop := ∀ k, listed.getD k false = true → ∀ m ∈ af.getD k [], listed.getD m false = true
section
variable {call : CallF} {ops : List Cp} {af : List (List Nat)}
def opsOf (ops : List Cp) (l : List Nat) : List Cp := l.filterMap (ops[·]?)
theorem vZo {n : Nat} {listed : List Bool} {i : Nat} : i ∈ readyL n af listed ↔ i < n ∧ listed[i]? = some false ∧ ∀ m ∈ af.getD i [], listed.getD m false = true := by
 unfold readyL
 simp only [List.mem_filter, List.mem_range, Bool.and_eq_true, Bool.not_eq_true', List.all_eq_true]
 constructor
 ·rintro ⟨h1, h2, h3⟩
  refine ⟨h1, ?_, h3⟩
  rw [List.getD_eq_getElem?_getD] at h2
  cases h : listed[i]? with
  | none => rw [h] at h2; simp at h2
  | some b => rw [h] at h2; simpa using h2
 ·rintro ⟨h1, h2, h3⟩
  exact ⟨h1, by rw [List.getD_eq_getElem?_getD, h2]; rfl, h3⟩
theorem getD_set {listed : List Bool} {a m : Nat} (h : listed.getD m false = true) : (listed.set a true).getD m false = true := by
 rw [List.getD_eq_getElem?_getD] at h ⊢
 by_cases e : a = m
 ·subst e
  rw [List.getElem?_set]
  cases hm : listed[a]? with
  | none => rw [hm] at h; simp at h
  | some b => simp [(List.getElem?_eq_some_iff.1 hm).1]
 ·rw [List.getElem?_set_ne e]; exact h
theorem jZ1 {listed : List Bool} (hc : Closed af listed) {n a : Nat} (ha : a ∈ readyL n af listed) : Closed af (listed.set a true) := by
 intro k hk m hm
 obtain ⟨h1, h2, h3⟩ := vZo.1 ha
 by_cases e : a = k
 ·subst e
  exact getD_set (h3 m hm)
 ·refine getD_set (hc k ?_ m hm)
  rw [List.getD_eq_getElem?_getD, List.getElem?_set_ne e, ← List.getD_eq_getElem?_getD] at hk
  exact hk
theorem dep_listed {listed : List Bool} (hc : Closed af listed) {j k : Nat} (hd : Dep af j k) (hk : listed.getD k false = true) : listed.getD j false = true := by
 induction hd with
 | one k h => exact hc k hk j h
 | step k m h _ ih => exact ih (hc k hk m h)
theorem not_dep {listed : List Bool} (hc : Closed af listed) {n j a : Nat} (hj : listed[j]? = some false) (ha : a ∈ readyL n af listed) : ¬ Dep af j a := by
 intro hd
 obtain ⟨h1, h2, h3⟩ := vZo.1 ha
 have hjf : listed.getD j false = true → False := by
  intro h
  rw [List.getD_eq_getElem?_getD, hj] at h
  cases h
 cases hd with
 | one _ h => exact hjf (h3 j h)
 | step _ m h hd => exact hjf (dep_listed hc hd (h3 m h))
theorem kZ8 {listed : List Bool} {j : Nat} (h : freeAt ops af listed j = true) : ∃ o, ops[j]? = some o ∧ ∀ k p, ops[k]? = some p → listed[k]? = some false → k ≠ j → ¬ Dep af j k → commB o p = true := by
 unfold freeAt at h
 split at h
 case h_2 => cases h
 rename_i o ho
 refine ⟨o, ho, fun k p hp hk hne hd => ?_⟩
 rw [List.all_eq_true] at h
 have := h k (by rw [List.mem_range]; exact (List.getElem?_eq_some_iff.1 hp).1)
 rw [hp] at this
 simp only [Bool.or_eq_true, beq_iff_eq, List.contains_eq_mem, decide_eq_true_eq] at this
 rcases this with ((h1 | h1) | h1) | h1
 ·rw [List.getD_eq_getElem?_getD, hk] at h1; cases h1
 ·exact absurd h1 hne
 ·exact absurd (desc_dep k h1) hd
 ·exact h1
theorem freeAt_set {listed : List Bool} {j a : Nat} (h : freeAt ops af listed j = true) : freeAt ops af (listed.set a true) j = true := by
 unfold freeAt at h ⊢
 split at h
 case h_2 => cases h
 rename_i o ho
 rw [List.all_eq_true] at h ⊢
 intro k hk
 have := h k hk
 simp only [Bool.or_eq_true] at this ⊢
 rcases this with ((h1 | h1) | h1) | h1
 ·refine .inl (.inl (.inl ?_))
  rw [List.getD_eq_getElem?_getD] at h1 ⊢
  by_cases e : a = k
  ·subst e
   rw [List.getElem?_set]
   cases hm : listed[a]? with
   | none =>
    have := List.getElem?_eq_none_iff.1 hm
    rw [if_pos rfl, if_neg (by omega)]
    rfl
   | some b => simp [(List.getElem?_eq_some_iff.1 hm).1]
  ·rw [List.getElem?_set_ne e]; exact h1
 ·exact .inl (.inl (.inr h1))
 ·exact .inl (.inr h1)
 ·exact .inr h1
theorem ready_set {listed : List Bool} {n a j : Nat} (hj : j ∈ readyL n af listed) (hne : a ≠ j) : j ∈ readyL n af (listed.set a true) := by
 obtain ⟨h1, h2, h3⟩ := vZo.1 hj
 exact vZo.2 ⟨h1, by rw [List.getElem?_set_ne hne]; exact h2, fun m hm => getD_set (h3 m hm)⟩
theorem vZg {o : Cp} {l : List Cp} {s r : St} : evOps call (o :: l) s = some r ↔ ∃ s1, evCp call o s = some s1 ∧ evOps call l s1 = some r := by
 simp only [evOps]
 cases evCp call o s <;> simp
theorem vZh {j : Nat} {o : Cp} {l : List Nat} (ho : ops[j]? = some o) : opsOf ops (j :: l) = o :: opsOf ops l := by
 simp [opsOf, List.filterMap_cons, ho]
theorem front {j0 : Nat} : ∀ (seq : List Nat) (listed : List Bool), Closed af listed → Ext ops.length af listed seq → j0 ∈ readyL ops.length af listed → freeAt ops af listed j0 = true →
  ∃ seq', Ext ops.length af (listed.set j0 true) seq' ∧ ∀ s r, evOps call (opsOf ops (j0 :: seq')) s = some r → evOps call (opsOf ops seq) s = some r
 | [], listed, hc, he, hj, hf => by
  simp only [Ext] at he
  rw [he] at hj
  cases hj
 | a :: rest, listed, hc, he, hj, hf => by
  obtain ⟨ha, he⟩ := he
  by_cases e : a = j0
  ·subst e
   exact ⟨rest, he, fun s r h => h⟩
  ·obtain ⟨seq', h1, h2⟩ := front rest _ (jZ1 hc ha) he (ready_set hj e) (freeAt_set hf)
   refine ⟨a :: seq', ⟨ready_set ha (Ne.symm e), ?_⟩, fun s r h => ?_⟩
   ·rw [List.set_comm _ _ (Ne.symm e)]; exact h1
   ·obtain ⟨o, ho, hcomm⟩ := kZ8 hf
    obtain ⟨a1, a2, a3⟩ := vZo.1 ha
    have hpa : ops[a]? = some ops[a] := by simp [a1]
    have hcm := hcomm a _ hpa a2 e (not_dep hc (vZo.1 hj).2.1 ha)
    rw [vZh ho, vZh hpa, vZg] at h
    obtain ⟨s1, q1, h⟩ := h
    rw [vZg] at h
    obtain ⟨s2, q2, h⟩ := h
    obtain ⟨s1', q3, q4⟩ := comm_sound hcm q1 q2
    rw [vZh hpa, vZg]
    refine ⟨s1', q3, h2 s1' r ?_⟩
    rw [vZh ho, vZg]
    exact ⟨s2, q4, h⟩
theorem wZ6 : ∀ (f : Nat) (listed : List Bool) (ls : List (List Nat)), orders2 ops af f listed = some ls → ls ≠ []
 | 0, listed, ls, h => by
  simp only [orders2] at h
  obtain ⟨_, rfl⟩ := qZR h
  simp
 | f + 1, listed, ls, h => by
  simp only [orders2] at h
  split at h
  ·cases h; simp
  ·rename_i i is hr
   split at h
   ·simp only [Option.map_eq_some_iff] at h
    obtain ⟨l', h1, rfl⟩ := h
    simpa using wZ6 f _ _ h1
   ·simp only [Option.map_eq_some_iff, List.mapM_cons, Option.bind_eq_bind, Option.bind_eq_some_iff, Option.pure_def, Option.some.injEq] at h
    obtain ⟨_, ⟨a, ⟨b, h1, rfl⟩, c, h2, rfl⟩, rfl⟩ := h
    have := wZ6 f _ _ h1
    simp [this]
theorem wZE {r : St} : ∀ (f : Nat) (listed : List Bool) (ls : List (List Nat)), orders2 ops af f listed = some ls → Closed af listed → ∀ (seq : List Nat) (s : St), Ext ops.length af listed seq →
  (∀ l ∈ ls, evOps call (opsOf ops l) s = some r) → evOps call (opsOf ops seq) s = some r
 | 0, listed, ls, h, hc, seq, s, he, hh => by
  simp only [orders2] at h
  obtain ⟨h1, rfl⟩ := qZR h
  cases seq with
  | nil => exact hh [] (by simp)
  | cons a seq => rw [Ext, h1] at he; cases he.1
 | f + 1, listed, ls, h, hc, seq, s, he, hh => by
  simp only [orders2] at h
  split at h
  ·rename_i hr
   cases h
   cases seq with
   | nil => exact hh [] (by simp)
   | cons a seq => rw [Ext, hr] at he; cases he.1
  ·rename_i i is hr
   split at h
   ·rename_i j hj
    simp only [Option.map_eq_some_iff] at h
    obtain ⟨ls', h1, rfl⟩ := h
    have hjm : j ∈ readyL ops.length af listed := by rw [hr]; exact List.mem_of_find?_eq_some hj
    have hfj : freeAt ops af listed j = true := by simpa using List.find?_some hj
    obtain ⟨seq', e1, e2⟩ := front (call := call) seq listed hc he hjm hfj
    refine e2 s r ?_
    obtain ⟨o, ho, _⟩ := kZ8 hfj
    obtain ⟨l0, l1, hl⟩ := List.exists_cons_of_ne_nil (wZ6 f _ _ h1)
    have h0 := hh (j :: l0) (by rw [hl]; simp)
    rw [vZh ho, vZg] at h0
    obtain ⟨s1, q1, _⟩ := h0
    rw [vZh ho, vZg]
    refine ⟨s1, q1, wZE f _ ls' h1 (jZ1 hc hjm) seq' s1 e1 (fun l hl => ?_)⟩
    have := hh (j :: l) (by simp only [List.mem_map]; exact ⟨l, hl, rfl⟩)
    rw [vZh ho, vZg] at this
    obtain ⟨s1', q2, q3⟩ := this
    rw [q1] at q2
    cases q2
    exact q3
   ·simp only [Option.map_eq_some_iff] at h
    obtain ⟨lss, h1, rfl⟩ := h
    obtain ⟨hl, hg⟩ := vZK _ _ _ h1
    cases seq with
    | nil => rw [Ext, hr] at he; cases he
    | cons a seq =>
     obtain ⟨ha, he⟩ := he
     have ham := ha
     rw [hr] at ham
     obtain ⟨p, hp⟩ := List.getElem?_of_mem ham
     have hpl : p < lss.length := by rw [hl]; exact (List.getElem?_eq_some_iff.1 hp).1
     have h2 := hg p a lss[p] hp (by simp [hpl])
     simp only [Option.map_eq_some_iff] at h2
     obtain ⟨ls', h3, h4⟩ := h2
     have hall : ∀ l ∈ ls', evOps call (opsOf ops (a :: l)) s = some r := by
      intro l hm
      refine hh _ ?_
      rw [List.mem_flatten]
      exact ⟨lss[p], by simp [hpl], by rw [← h4]; simp only [List.mem_map]; exact ⟨l, hm, rfl⟩⟩
     have hpa : ops[a]? = some (ops[a]'(vZo.1 ha).1) := by simp [(vZo.1 ha).1]
     obtain ⟨l0, l1, hl0⟩ := List.exists_cons_of_ne_nil (wZ6 f _ _ h3)
     have h0 := hall l0 (by rw [hl0]; simp)
     rw [vZh hpa, vZg] at h0
     obtain ⟨s1, q1, _⟩ := h0
     rw [vZh hpa, vZg]
     refine ⟨s1, q1, wZE f _ ls' h3 (jZ1 hc ha) seq s1 he (fun l hm => ?_)⟩
     have := hall l hm
     rw [vZh hpa, vZg] at this
     obtain ⟨s1', q2, q3⟩ := this
     rw [q1] at q2
     cases q2
     exact q3
def left (listed : List Bool) : Nat := (listed.filter (!·)).length
theorem kZN : ∀ {listed : List Bool} {j : Nat}, listed[j]? = some false → left (listed.set j true) + 1 = left listed
 | [], j, h => by simp at h
 | b :: l, 0, h => by simp at h; subst h; simp [left]
 | b :: l, j + 1, h => by
  have := kZN (listed := l) (j := j) (by simpa using h)
  unfold left at this ⊢
  cases b <;> simp [List.filter_cons] <;> omega
theorem xZY {n : Nat} : ∀ (m : Nat) (listed : List Bool), left listed ≤ m → ∃ seq, Ext n af listed seq
 | m, listed, hm => by
  cases hr : readyL n af listed with
  | nil => exact ⟨[], hr⟩
  | cons i is =>
   have hi : i ∈ readyL n af listed := by rw [hr]; simp
   have h1 := kZN (vZo.1 hi).2.1
   cases m with
   | zero => omega
   | succ m =>
    obtain ⟨seq, hs⟩ := xZY m (listed.set i true) (by omega)
    exact ⟨i :: seq, hi, hs⟩
theorem any_ext {fl : List Nat} {r : St} : ∀ (f : Nat) (listed : List Bool) (s : St), left listed ≤ f → (∀ seq, Ext ops.length af listed seq → evOps call (opsOf ops seq) s = some r) → evAny call ops af fl f listed s = some r
 | f, listed, s, hf, hh => by
  have done : readyL ops.length af listed = [] → s = r := fun hr => by
   have := hh [] hr
   simpa [opsOf, evOps] using this
  cases f with
  | zero =>
   have hr : readyL ops.length af listed = [] := by
    cases hr : readyL ops.length af listed with
    | nil => rfl
    | cons i is =>
     have hi : i ∈ readyL ops.length af listed := by rw [hr]; simp
     have h1 := kZN (vZo.1 hi).2.1
     omega
   simp [evAny, hr, done hr]
  | succ f =>
   rw [wZs]
   have one : ∀ j ∈ readyL ops.length af listed, evRun call ops af fl f listed s j = some r := by
    intro j hj
    obtain ⟨h1, h2, h3⟩ := vZo.1 hj
    have hls := kZN h2
    have hpj : ops[j]? = some ops[j] := by simp [h1]
    obtain ⟨seq0, e0⟩ := xZY (n := ops.length) (af := af) _ (listed.set j true) (Nat.le_refl _)
    have h0 := hh (j :: seq0) ⟨hj, e0⟩
    rw [vZh hpj, vZg] at h0
    obtain ⟨s1, q1, _⟩ := h0
    unfold evRun
    simp only [hpj, q1]
    refine any_ext f _ s1 (by omega) (fun seq he => ?_)
    have := hh (j :: seq) ⟨hj, he⟩
    rw [vZh hpj, vZg] at this
    obtain ⟨s1', q2, q3⟩ := this
    rw [q1] at q2
    cases q2
    exact q3
   split
   ·rename_i hr
    rw [done hr]
   ·rename_i i is hr
    split
    ·rename_i j hj
     exact one j (by rw [hr]; exact List.mem_of_find?_eq_some hj)
    ·rw [one i (by rw [hr]; simp)]
     have : (is.all fun j => beqO (evRun call ops af fl f listed s j) r) = true := by
      rw [List.all_eq_true]
      intro j hj
      rw [one j (by rw [hr]; simp [hj])]
      exact xZq r
     simp [this]
theorem left_rep (n : Nat) : left (List.replicate n false) = n := by simp [left]
theorem xZS (n : Nat) : Closed af (List.replicate n false) := by
 intro k hk
 rw [List.getD_eq_getElem?_getD, List.getElem?_replicate] at hk
 split at hk <;> cases hk
theorem kDraw2 {rnd : Option Nat} {Q : Ex → St → Prop} {s : St} {k : List It} {fl : List Nat} {l : List Nat} {ls : List (List Nat)} (h : orders2 ops af ops.length (List.replicate ops.length false) = some (l :: ls))
  (hw : WO call (l.filterMap (ops[·]?)) s (fun r => (∀ l' ∈ ls, WO call (l'.filterMap (ops[·]?)) s (fun r' => r' = r)) ∧ WK call rnd Q k r)) : WK call rnd Q (.c (.draw ops af fl) :: k) s := by
 obtain ⟨r, h1, h2, h3⟩ := hw
 have he : ∀ fl, evAny call ops af fl ops.length (List.replicate ops.length false) s = some r := fun fl =>
  any_ext _ _ s (by rw [left_rep]; exact Nat.le_refl _) (fun seq hseq => wZE _ _ _ h (xZS _) seq s hseq (fun l' hl' => by
   rcases List.mem_cons.1 hl' with rfl | hl'
   ·exact h1
   ·obtain ⟨r', q1, rfl⟩ := h2 l' hl'
    exact q1))
 simp only [WK]
 exact ⟨.normal, r, by simp [evCodeW, he], h3⟩
theorem kDraw1 {rnd : Option Nat} {Q : Ex → St → Prop} {s : St} {k : List It} {fl : List Nat} {l : List Nat} (h : orders2 ops af ops.length (List.replicate ops.length false) = some [l])
  (hw : WK call rnd Q (.o (l.filterMap (ops[·]?)) :: k) s) : WK call rnd Q (.c (.draw ops af fl) :: k) s := by
 simp only [WK] at hw
 obtain ⟨r, h1, h2⟩ := hw
 exact kDraw2 h ⟨r, h1, by simp, h2⟩
end
end Go.Ev
