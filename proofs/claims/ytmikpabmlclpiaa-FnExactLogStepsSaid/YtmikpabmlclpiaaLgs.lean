/- Many steps of a log: the loops of impl.LogSteps and spec.LogSteps. Nothing is assumed. -/
import Derived.Test.YtmikpabmlclpiaaLst
import Derived.Test.YtmikpabmlclpiaaHd
namespace Go.Proofs.Ytmikpabmlclpiaa.Lgs
open Go
noncomputable section
/-! ### a step, told of where it is known what a log is -/
noncomputable def okStep (w : Nat → Nat) (a t : Nat) : Bool := pB (Inv w ∧ Share a ∧ Share t)
noncomputable def gSo (G : List SV → Option (SV × List Bool)) : CS := fun base args rd => match rd with
  | [] => match G args with
    | some r => some ⟨r.1, [], base, r.2⟩
    | none => none
  | _ :: _ => none
noncomputable def gQo (sh : List Shp) (G : List SV → Option (SV × List Bool)) : CS := fun base args rd =>
  bindO (derefS rd sh args) fun d => bindO (G d.1) fun r => some ⟨r.1, [], base, d.2 ++ r.2⟩
theorem gSo_ok {P : Program} {f : FuncId} {G0 : List SV → Option SV} (h : CallOK P f (gS G0)) {G : List SV → Option (SV × List Bool)} (hG : ∀ args r, G args = some r → AllT r.2 → G0 args = some r.1) : CallOK P f (gSo G) :=
  CallOK.hand h fun b args rd e he hob => by
    unfold gSo at he
    split at he <;> try (cases he; done)
    split at he <;> cases he
    rename_i r hr
    refine ⟨[], ?_, AllT.nil⟩
    unfold gS
    simp only [hG args r hr hob]
theorem gQo_ok {P : Program} {f : FuncId} {sh : List Shp} {G0 : List SV → Option SV} (h : CallOK P f (gQ sh G0)) {G : List SV → Option (SV × List Bool)} (hG : ∀ args r, G args = some r → AllT r.2 → G0 args = some r.1) : CallOK P f (gQo sh G) :=
  CallOK.hand h fun b args rd e he hob => by
    unfold gQo at he
    obtain ⟨d, hd, he⟩ := bindO_some he
    obtain ⟨r, hr, he⟩ := bindO_some he
    cases he
    obtain ⟨h1, h2⟩ := hob.append
    refine ⟨d.2, ?_, h1⟩
    unfold gQ
    simp only [bindO, hd, hG d.1 r hr h2]
noncomputable def nw (O : FOps) (w : Nat → Nat) (r a t : Nat) : Nat → Nat := w3I O w r a t
noncomputable def okN (O : FOps) (nm : Nat → Bool) (w : Nat → Nat) (r t : Nat) : Bool := nm (inI O w r t)
noncomputable def gI (O : FOps) (nm : Nat → Bool) : List SV → Option (SV × List Bool)
  | [v, .c (.flt .f32 r), .c (.flt .f32 a), .c (.flt .f32 t)] => match wdOf v with
    | some w => some (.tup [.a (wdL (nw O w r a t)), .c (.flt .f32 (htF O w r a t)), .c (.flt .f32 (smF O w r t)), .c (.flt .f32 (fuF O w r a t)), .c (.bool (.s (okN O nm w r t)))], [okStep w a t])
    | none => none
  | _ => none
noncomputable def gSp (O : FOps) (nm : Nat → Bool) : List SV → Option (SV × List Bool)
  | [v, .c (.flt .f32 r), .c (.flt .f32 a), .c (.flt .f32 t)] => match wdOf v with
    | some w => some (stepV (okN O nm w r t) (nw O w r a t) (htF O w r a t) (smF O w r t) (fuF O w r a t), [okStep w a t])
    | none => none
  | _ => none
set_option maxRecDepth 100000 in
theorem cI : CallOK Try.prog 75 (gSo (gI fops isNum)) := gSo_ok cStepI fun args r hr hob => by
  unfold gI at hr
  split at hr <;> try (cases hr; done)
  split at hr <;> cases hr
  rename_i w hw
  obtain ⟨h1, h2, h3⟩ := pB_iff.1 hob.head
  unfold stepG
  simp only [hw]
  rw [ok_eq h1 h2 h3]
  rfl
set_option maxRecDepth 100000 in
theorem cS : CallOK Try.prog 73 (gQo [.p 18, .v, .v, .v] (gSp fops isNum)) := gQo_ok cStepS fun args r hr hob => by
  unfold gSp at hr
  split at hr <;> try (cases hr; done)
  split at hr <;> cases hr
  rename_i w hw
  obtain ⟨h1, h2, h3⟩ := pB_iff.1 hob.head
  unfold stepSG
  simp only [hw]
  rw [step_eq h1 h2 h3]
  rfl
/-! ### the rounds -/
noncomputable def it (O : FOps) (nm : Nat → Bool) (r a t : Nat) : Nat → (Nat → Nat) → Nat → Nat → Option ((Nat → Nat) × Nat × Nat)
  | 0, w, s, u => some (w, s, u)
  | m + 1, w, s, u => bif okN O nm (back w) r t then it O nm r a t m (nw O (back w) r a t) (O.bin .add .f32 s (smF O (back w) r t)) (O.bin .add .f32 u (fuF O (back w) r a t)) else none
noncomputable def w18 (w : Nat → Nat) : List LD := [.f (w 0), .f (w 1), .f (w 2), .f (w 3), .f (w 4), .f (w 5), .f (w 6), .f (w 7), .f (w 8), .f (w 9), .f (w 10), .f (w 11), .f (w 12), .f (w 13), .f (w 14), .f (w 15), .f (w 16), .f (w 17)]
noncomputable def tk18 : List LD → Option ((Nat → Nat) × List LD)
  | .f a0 :: .f a1 :: .f a2 :: .f a3 :: .f a4 :: .f a5 :: .f a6 :: .f a7 :: .f a8 :: .f a9 :: .f a10 :: .f a11 :: .f a12 :: .f a13 :: .f a14 :: .f a15 :: .f a16 :: .f a17 :: p => some (fun i => [a0, a1, a2, a3, a4, a5, a6, a7, a8, a9, a10, a11, a12, a13, a14, a15, a16, a17].getD i 0, p)
  | _ => none
theorem tk18_ok {p q : List LD} {w : Nat → Nat} (h : tk18 p = some (w, q)) : p = w18 w ++ q ∧ back w = w := by
  unfold tk18 at h
  split at h <;> cases h
  exact ⟨rfl, rfl⟩
noncomputable def C18 : List KC := [.flt .f32, .flt .f32, .flt .f32, .flt .f32, .flt .f32, .flt .f32, .flt .f32, .flt .f32, .flt .f32, .flt .f32, .flt .f32, .flt .f32, .flt .f32, .flt .f32, .flt .f32, .flt .f32, .flt .f32, .flt .f32]
noncomputable def sgB : List (Nat × KS) := [(1, ⟨true, true, .cells C18⟩), (2, ⟨true, true, .cells C18⟩)]
noncomputable def LL (O : FOps) (nm : Nat → Bool) : List (Nat × CS) := [(75, gSo (gI O nm)), (73, gQo [.p 18, .v, .v, .v] (gSp O nm))]
set_option maxRecDepth 100000 in
theorem okLL : AllOK Try.prog (LL fops isNum) := ⟨cI, cS, trivial⟩
noncomputable def cxL (O : FOps) (nm : Nat → Bool) : Cx := ⟨Try.prog, O, orcN Try.prog O (LL O nm) 8⟩
noncomputable def on2 (x y : Nat) (a b : Bool) (t : Nat) : Option Bool := bif Nat.beq t x then some a else bif Nat.beq t y then some b else none
noncomputable def Z18 : Nat → Nat := fun _ => 0
/-! ### impl.LogSteps -/
noncomputable def NXI : Nat := 5
noncomputable def NXS : Nat := 3
noncomputable def skI : Sk := ⟨[(1, .c (.flt .f32)), (2, .c (.flt .f32)), (3, .c (.flt .f32)), (5, .c (.ptr 1 0)), (10, .c (.ptr 2 0)), (15, .c (.flt .f32)), (16, .c (.flt .f32)), (38, .c (.int .i64)), (39, .c (.int .i64))], sgB, NXI⟩
noncomputable def skIR : Sk := ⟨[(10, .c (.ptr 2 0)), (11, .c (.flt .f32)), (12, .c (.flt .f32)), (13, .c (.intc .i64 4))], [(2, ⟨true, true, .cells C18⟩)], NXI⟩
noncomputable def skIE : Sk := ⟨[(5, .c (.ptr 1 0)), (10, .c (.ptr 2 0)), (15, .c (.flt .f32)), (16, .c (.flt .f32))], sgB, NXI⟩
noncomputable def dI (r a t s u : Nat) (N k : Int) (w z : Nat → Nat) : List LD := [.f r, .f a, .f t, .f s, .f u, .i N, .i k] ++ (w18 w ++ w18 z)
noncomputable def dE (s u : Nat) (w z : Nat → Nat) : List LD := [.f s, .f u] ++ (w18 w ++ w18 z)
noncomputable def dR : List LD := [.f 0, .f 0] ++ w18 Z18
noncomputable def NI : Nat := Try.f47.ntmps
noncomputable def goI (O : FOps) (nm : Nat → Bool) (x y : Bool) (sk : Sk) (r a t s u : Nat) (N k : Int) (w z : Nat → Nat) : Option (Option XK × List LD × List Bool) :=
  goL (cxL O nm) NI ⟨on2 40 53 x y, fun _ => none⟩ (bodyOf Try.f47 8) NXI 60 skI [] sk (dI r a t s u N k w z)
set_option maxRecDepth 100000 in
theorem stI (O : FOps) (nm : Nat → Bool) (r a t s u : Nat) (N k : Int) (w z : Nat → Nat) : goI O nm true false skI r a t s u N k w z =
    some (none, dI r a t (O.bin .add .f32 s (smF O (back w) r t)) (O.bin .add .f32 u (fuF O (back w) r a t)) N (IntKind.i64.wrap (k + 1)) (nw O (back w) r a t) z, [decide (k < N), okStep (back w) a t, !!okN O nm (back w) r t]) := by kernel_rfl
set_option maxRecDepth 100000 in
theorem reI (O : FOps) (nm : Nat → Bool) (r a t s u : Nat) (N k : Int) (w z : Nat → Nat) : goI O nm true true skIR r a t s u N k w z =
    some (some .ret, dR, [decide (k < N), okStep (back w) a t, !okN O nm (back w) r t]) := by kernel_rfl
set_option maxRecDepth 100000 in
theorem enI (O : FOps) (nm : Nat → Bool) (r a t s u : Nat) (N k : Int) (w z : Nat → Nat) : goI O nm false true skIE r a t s u N k w z =
    some (some (.exit 0), dE s u w z, [!decide (k < N)]) := by kernel_rfl
noncomputable def isN {α : Type} : Option α → Bool
  | none => true
  | some _ => false
noncomputable def gW : Option ((Nat → Nat) × Nat × Nat) → Nat → Nat
  | some x => x.1
  | none => Z18
noncomputable def gS' : Option ((Nat → Nat) × Nat × Nat) → Nat
  | some x => x.2.1
  | none => 0
noncomputable def gU : Option ((Nat → Nat) × Nat × Nat) → Nat
  | some x => x.2.2
  | none => 0
def PreL (N k : Int) (w : Nat → Nat) (a t : Nat) : Prop := k = 0 ∧ 0 ≤ N ∧ N ≤ 100000000 ∧ Inv (back w) ∧ Share a ∧ Share t

noncomputable def FI (O : FOps) (nm : Nat → Bool) : List LD → Option (XO × List Bool)
  | .f r :: .f a :: .f t :: .f s :: .f u :: .i N :: .i k :: p => bindO (tk18 p) fun q => bindO (tk18 q.2) fun q' => match q'.2 with
    | [] => some ([(.s (isN (it O nm r a t N.toNat q.1 s u)), .ret, skIR, dR), (.t, .exit 0, skIE, dE (gS' (it O nm r a t N.toNat q.1 s u)) (gU (it O nm r a t N.toNat q.1 s u)) (gW (it O nm r a t N.toNat q.1 s u)) q'.1)], [pB (PreL N k q.1 a t)])
    | _ :: _ => none
  | _ => none
theorem loI (r : Nat) (z : Nat → Nat) {a t : Nat} (ha : Share a) (ht : Share t) {N : Int} (hN : N ≤ 100000000) : ∀ (m : Nat) (k : Int) (w : Nat → Nat) (s u : Nat), 0 ≤ k → k + m = N → Inv (back w) →
    (it fops isNum r a t m w s u = none → Loops (cxL fops isNum) NI (fun _ => none) (bodyOf Try.f47 8) NXI 60 skI (dI r a t s u N k w z) .ret skIR dR) ∧
    (∀ x, it fops isNum r a t m w s u = some x → Loops (cxL fops isNum) NI (fun _ => none) (bodyOf Try.f47 8) NXI 60 skI (dI r a t s u N k w z) (.exit 0) skIE (dE x.2.1 x.2.2 x.1 z)) := by
  intro m
  induction m with
  | zero =>
    intro k w s u hk hkn hi
    have e : k = N := by omega
    subst e
    refine ⟨fun h => (by cases h), fun x h => ?_⟩
    cases h
    exact .done (ts := on2 40 53 false true) (ρ := []) (enI fops isNum r a t s u k k w z) (AllT.cons (by simp) AllT.nil)
  | succ m ih =>
    intro k w s u hk hkn hi
    have hlt : k < N := by omega
    have hE : it fops isNum r a t (m + 1) w s u = bif okN fops isNum (back w) r t then it fops isNum r a t m (nw fops (back w) r a t) (fops.bin .add .f32 s (smF fops (back w) r t)) (fops.bin .add .f32 u (fuF fops (back w) r a t)) else none := rfl
    have hd : decide (k < N) = true := by simpa using hlt
    have ho : okStep (back w) a t = true := pB_iff.2 ⟨hi, ha, ht⟩
    rw [hE]
    cases hq : okN fops isNum (back w) r t with
    | true =>
      obtain ⟨i1, i2⟩ := ih (k + 1) (nw fops (back w) r a t) (fops.bin .add .f32 s (smF fops (back w) r t)) (fops.bin .add .f32 u (fuF fops (back w) r a t)) (by omega) (by omega) (inv_back (inv3 hi ha ht))
      have h1 := stI fops isNum r a t s u N k w z
      rw [wrap_succ hk (by omega), hq] at h1
      have hob : AllT [decide (k < N), okStep (back w) a t, !!true] := AllT.cons hd (AllT.cons ho (AllT.cons rfl AllT.nil))
      exact ⟨fun h => .step (ts := on2 40 53 true false) (ρ := []) h1 hob (i1 h), fun x h => .step (ts := on2 40 53 true false) (ρ := []) h1 hob (i2 x h)⟩
    | false =>
      have h1 := reI fops isNum r a t s u N k w z
      rw [hq] at h1
      have hob : AllT [decide (k < N), okStep (back w) a t, !false] := AllT.cons hd (AllT.cons ho (AllT.cons rfl AllT.nil))
      refine ⟨fun _ => .done (ts := on2 40 53 true true) (ρ := []) h1 hob, fun x h => (by cases h)⟩
noncomputable def LI (O : FOps) (nm : Nat → Bool) : List Ly → Top → Option Outs := orIter (cxL O nm) NI (bodyOf Try.f47 8) (loopL NI NXI 60 skI [] (FI O nm))
set_option maxRecDepth 100000 in
theorem okI : CodeOK Try.prog NI (.loop (bodyOf Try.f47 8)) (LI fops isNum) := by
  refine orIter_ok (l := LL fops isNum) okLL mixed 8 (loopL_ok (cx := cxL fops isNum) (lp := fun _ => none) (fun ts => body_ok (l := LL fops isNum) okLL mixed 8 _ ts) fun p x hr hob => ?_)
  unfold FI at hr
  split at hr <;> try (cases hr; done)
  rename_i r a t s u N k p
  obtain ⟨q, hq, hr⟩ := bindO_some hr
  obtain ⟨q', hq', hr⟩ := bindO_some hr
  split at hr <;> cases hr
  have hnil : q'.2 = [] := by assumption
  obtain ⟨w, p1⟩ := q
  obtain ⟨z, p2⟩ := q'
  obtain ⟨rfl, hw⟩ := tk18_ok hq
  obtain ⟨rfl, hz⟩ := tk18_ok hq'
  simp only at hnil
  subst hnil
  obtain ⟨e1, h0, hm, hi, ha, ht⟩ := pB_iff.1 hob.head
  obtain ⟨h1, h2⟩ := loI r z ha ht hm N.toNat 0 w s u (Int.le_refl _) (by omega) hi
  rw [e1]
  have hp : .f r :: .f a :: .f t :: .f s :: .f u :: .i N :: .i 0 :: (w18 w ++ (w18 z ++ [])) = dI r a t s u N 0 w z := by rw [List.append_nil]; rfl
  rw [hp]
  cases hx : it fops isNum r a t N.toNat w s u with
  | none => exact ⟨_, _, _, by simp [pickX, SB.val, isN, hx], h1 hx⟩
  | some x => exact ⟨_, _, _, by simp [pickX, SB.val, isN, hx, gS', gU, gW], h2 x hx⟩

/-! ### spec.LogSteps -/
noncomputable def skS : Sk := ⟨[(1, .c (.flt .f32)), (2, .c (.flt .f32)), (3, .c (.flt .f32)), (5, .c (.ptr 1 0)), (10, .c (.ptr 2 0)), (15, .c (.flt .f32)), (16, .c (.flt .f32)), (4, .c (.int .i64)), (17, .c (.int .i64))], sgB, NXS⟩
noncomputable def skSR : Sk := ⟨[(10, .c (.ptr 2 0)), (11, .c (.flt .f32)), (12, .c (.flt .f32)), (13, .c (.int .i64))], [(2, ⟨true, true, .cells C18⟩)], NXS⟩
noncomputable def skSE : Sk := ⟨[(5, .c (.ptr 1 0)), (10, .c (.ptr 2 0)), (15, .c (.flt .f32)), (16, .c (.flt .f32))], sgB, NXS⟩
noncomputable def dSR (c : Int) : List LD := [.f 0, .f 0, .i c] ++ w18 Z18
noncomputable def NS : Nat := Try.f46.ntmps
noncomputable def goS (O : FOps) (nm : Nat → Bool) (x y : Bool) (sk : Sk) (r a t s u : Nat) (N k : Int) (w z : Nat → Nat) : Option (Option XK × List LD × List Bool) :=
  goL (cxL O nm) NS ⟨on2 40 54 x y, fun _ => none⟩ (bodyOf Try.f46 9) NXS 60 skS [] sk (dI r a t s u N k w z)
noncomputable def cS' (F : Bool) : Int := bif !F then 4 else 0
noncomputable def tS (F : Bool) : Bool := !!decide (cS' F = 0)
noncomputable def tS2 (F : Bool) : Bool := !decide (cS' F = 0)
noncomputable def fz (F : Bool) (x : Nat) : Nat := bif !F then 0 else x
set_option maxRecDepth 100000 in
theorem stS (O : FOps) (nm : Nat → Bool) (r a t s u : Nat) (N k : Int) (w z : Nat → Nat) : goS O nm true false skS r a t s u N k w z =
    some (none, dI r a t (O.bin .add .f32 s (fz (okN O nm (back w) r t) (smF O (back w) r t))) (O.bin .add .f32 u (fz (okN O nm (back w) r t) (fuF O (back w) r a t))) N (IntKind.i64.wrap (k + 1)) (fun i => fz (okN O nm (back w) r t) (nw O (back w) r a t i)) z, [decide (k < N), okStep (back w) a t, tS (okN O nm (back w) r t)]) := by kernel_rfl
set_option maxRecDepth 100000 in
theorem reS (O : FOps) (nm : Nat → Bool) (r a t s u : Nat) (N k : Int) (w z : Nat → Nat) : goS O nm true true skSR r a t s u N k w z =
    some (some .ret, dSR (cS' (okN O nm (back w) r t)), [decide (k < N), okStep (back w) a t, tS2 (okN O nm (back w) r t)]) := by kernel_rfl
set_option maxRecDepth 100000 in
theorem enS (O : FOps) (nm : Nat → Bool) (r a t s u : Nat) (N k : Int) (w z : Nat → Nat) : goS O nm false true skSE r a t s u N k w z =
    some (some (.exit 0), dE s u w z, [!decide (k < N)]) := by kernel_rfl

noncomputable def FS (O : FOps) (nm : Nat → Bool) : List LD → Option (XO × List Bool)
  | .f r :: .f a :: .f t :: .f s :: .f u :: .i N :: .i k :: p => bindO (tk18 p) fun q => bindO (tk18 q.2) fun q' => match q'.2 with
    | [] => some ([(.s (isN (it O nm r a t N.toNat q.1 s u)), .ret, skSR, (dSR 4)), (.t, .exit 0, skSE, dE (gS' (it O nm r a t N.toNat q.1 s u)) (gU (it O nm r a t N.toNat q.1 s u)) (gW (it O nm r a t N.toNat q.1 s u)) q'.1)], [pB (PreL N k q.1 a t)])
    | _ :: _ => none
  | _ => none
theorem loS (r : Nat) (z : Nat → Nat) {a t : Nat} (ha : Share a) (ht : Share t) {N : Int} (hN : N ≤ 100000000) : ∀ (m : Nat) (k : Int) (w : Nat → Nat) (s u : Nat), 0 ≤ k → k + m = N → Inv (back w) →
    (it fops isNum r a t m w s u = none → Loops (cxL fops isNum) NS (fun _ => none) (bodyOf Try.f46 9) NXS 60 skS (dI r a t s u N k w z) .ret skSR (dSR 4)) ∧
    (∀ x, it fops isNum r a t m w s u = some x → Loops (cxL fops isNum) NS (fun _ => none) (bodyOf Try.f46 9) NXS 60 skS (dI r a t s u N k w z) (.exit 0) skSE (dE x.2.1 x.2.2 x.1 z)) := by
  intro m
  induction m with
  | zero =>
    intro k w s u hk hkn hi
    have e : k = N := by omega
    subst e
    refine ⟨fun h => (by cases h), fun x h => ?_⟩
    cases h
    exact .done (ts := on2 40 54 false true) (ρ := []) (enS fops isNum r a t s u k k w z) (AllT.cons (by simp) AllT.nil)
  | succ m ih =>
    intro k w s u hk hkn hi
    have hlt : k < N := by omega
    have hE : it fops isNum r a t (m + 1) w s u = bif okN fops isNum (back w) r t then it fops isNum r a t m (nw fops (back w) r a t) (fops.bin .add .f32 s (smF fops (back w) r t)) (fops.bin .add .f32 u (fuF fops (back w) r a t)) else none := rfl
    have hd : decide (k < N) = true := by simpa using hlt
    have ho : okStep (back w) a t = true := pB_iff.2 ⟨hi, ha, ht⟩
    rw [hE]
    cases hq : okN fops isNum (back w) r t with
    | true =>
      obtain ⟨i1, i2⟩ := ih (k + 1) (nw fops (back w) r a t) (fops.bin .add .f32 s (smF fops (back w) r t)) (fops.bin .add .f32 u (fuF fops (back w) r a t)) (by omega) (by omega) (inv_back (inv3 hi ha ht))
      have h1 := stS fops isNum r a t s u N k w z
      rw [wrap_succ hk (by omega), hq] at h1
      have hob : AllT [decide (k < N), okStep (back w) a t, tS true] := AllT.cons hd (AllT.cons ho (AllT.cons rfl AllT.nil))
      exact ⟨fun h => .step (ts := on2 40 54 true false) (ρ := []) h1 hob (i1 h), fun x h => .step (ts := on2 40 54 true false) (ρ := []) h1 hob (i2 x h)⟩
    | false =>
      have h1 := reS fops isNum r a t s u N k w z
      rw [hq] at h1
      have hob : AllT [decide (k < N), okStep (back w) a t, tS2 false] := AllT.cons hd (AllT.cons ho (AllT.cons rfl AllT.nil))
      refine ⟨fun _ => .done (ts := on2 40 54 true true) (ρ := []) h1 hob, fun x h => (by cases h)⟩
noncomputable def LSp (O : FOps) (nm : Nat → Bool) : List Ly → Top → Option Outs := orIter (cxL O nm) NS (bodyOf Try.f46 9) (loopL NS NXS 60 skS [] (FS O nm))
set_option maxRecDepth 100000 in
theorem okS : CodeOK Try.prog NS (.loop (bodyOf Try.f46 9)) (LSp fops isNum) := by
  refine orIter_ok (l := LL fops isNum) okLL mixed 8 (loopL_ok (cx := cxL fops isNum) (lp := fun _ => none) (fun ts => body_ok (l := LL fops isNum) okLL mixed 8 _ ts) fun p x hr hob => ?_)
  unfold FS at hr
  split at hr <;> try (cases hr; done)
  rename_i r a t s u N k p
  obtain ⟨q, hq, hr⟩ := bindO_some hr
  obtain ⟨q', hq', hr⟩ := bindO_some hr
  split at hr <;> cases hr
  have hnil : q'.2 = [] := by assumption
  obtain ⟨w, p1⟩ := q
  obtain ⟨z, p2⟩ := q'
  obtain ⟨rfl, hw⟩ := tk18_ok hq
  obtain ⟨rfl, hz⟩ := tk18_ok hq'
  simp only at hnil
  subst hnil
  obtain ⟨e1, h0, hm, hi, ha, ht⟩ := pB_iff.1 hob.head
  obtain ⟨h1, h2⟩ := loS r z ha ht hm N.toNat 0 w s u (Int.le_refl _) (by omega) hi
  rw [e1]
  have hp : .f r :: .f a :: .f t :: .f s :: .f u :: .i N :: .i 0 :: (w18 w ++ (w18 z ++ [])) = dI r a t s u N 0 w z := by rw [List.append_nil]; rfl
  rw [hp]
  cases hx : it fops isNum r a t N.toNat w s u with
  | none => exact ⟨_, _, _, by simp [pickX, SB.val, isN, hx], h1 hx⟩
  | some x => exact ⟨_, _, _, by simp [pickX, SB.val, isN, hx, gS', gU, gW], h2 x hx⟩
/-! ### both functions -/
noncomputable def LR (O : FOps) (nm : Nat → Bool) (vl : (Nat → Nat) → Bool) : List (Nat × CS) := [(79, amtS), (78, amtS), (61, gQ [.s 1] (finG nm)), (58, gS (fin1G nm)), (19, gS (validG vl)), (51, gQ [.p 18] (validG vl)), (75, gSo (gI O nm)), (73, gQo [.p 18, .v, .v, .v] (gSp O nm))]
set_option maxRecDepth 100000 in
theorem okLR : AllOK Try.prog (LR fops isNum valid) := ⟨cAmtI, cAmtL, cFin, cFinL, cValI, cValS, cI, cS, trivial⟩
noncomputable def RI (O : FOps) (nm : Nat → Bool) (vl : (Nat → Nat) → Bool) (w : Nat → Nat) (r a t : Nat) (N : Int) : Option (SV × List Bool) := rE 1 (inl ⟨Try.prog, O, orcN Try.prog O (LR O nm vl) 8⟩ Try.f47 ⟨fun _ => none, lpOf [(8, LI O nm)]⟩ 1 [wd w, .c (.flt .f32 r), .c (.flt .f32 a), .c (.flt .f32 t), .c (.int .i64 (.s N))] [])
noncomputable def RS (O : FOps) (nm : Nat → Bool) (vl : (Nat → Nat) → Bool) (w : Nat → Nat) (r a t : Nat) (N : Int) : Option (SV × List Bool) := rE 1 (inl ⟨Try.prog, O, orcN Try.prog O (LR O nm vl) 8⟩ Try.f46 ⟨fun _ => none, lpOf [(9, LSp O nm)]⟩ 1 [wd w, .c (.flt .f32 r), .c (.flt .f32 a), .c (.flt .f32 t), .c (.int .i64 (.s N))] [])
noncomputable def rgI (O : FOps) (nm : Nat → Bool) (r a t : Nat) : Bool := bif !allB nm [r] then true else bif !shareB O a then true else bif shareB O t then false else true
noncomputable def rgS (O : FOps) (nm : Nat → Bool) (r a t : Nat) : Bool := bif !nm r then true else bif !shareB O a then true else !shareB O t
noncomputable def code (V R : Bool) : Int := bif !V then 1 else bif (!!V && R) then 2 else 0
noncomputable def bad (V R : Bool) : Bool := !decide (code V R = 0)
noncomputable def rnI (N : Int) : Bool := bif decide (N < 0) then true else decide (300 < N)
noncomputable def codeS (V R : Bool) : Int := bif !V then 1 else bif R then 2 else 0
noncomputable def inS' (N : Int) : Bool := bif decide (0 ≤ N) then decide (N ≤ 300) else false
noncomputable def code2 (V R : Bool) (N : Int) : Int := bif (bif decide (codeS V R = 0) then !inS' N else false) then 2 else codeS V R
noncomputable def bad2 (V R : Bool) (N : Int) : Bool := !decide (code2 V R N = 0)
abbrev X3 := Option ((Nat → Nat) × Nat × Nat)
noncomputable def outI (V R : Bool) (N : Int) (X : X3) : SV :=
  .tup [.a (wdL fun i => bif bad V R then 0 else bif rnI N then 0 else bif isN X then 0 else gW X i), .c (.flt .f32 (bif bad V R then 0 else bif rnI N then 0 else bif isN X then 0 else gS' X)), .c (.flt .f32 (bif bad V R then 0 else bif rnI N then 0 else bif isN X then 0 else gU X)),
    .c (.int .i64 (.s (bif bad V R then code V R else bif rnI N then 2 else bif isN X then 4 else 0)))]
noncomputable def outS (V R : Bool) (N : Int) (X : X3) : SV :=
  .tup [.a (wdL fun i => bif bad2 V R N then 0 else bif isN X then 0 else gW X i), .c (.flt .f32 (bif bad2 V R N then 0 else bif isN X then 0 else gS' X)), .c (.flt .f32 (bif bad2 V R N then 0 else bif isN X then 0 else gU X)),
    .c (.int .i64 (.s (bif bad2 V R N then code2 V R N else bif isN X then 4 else 0)))]
set_option maxRecDepth 100000 in
theorem RI_run (O : FOps) (nm : Nat → Bool) (vl : (Nat → Nat) → Bool) (w : Nat → Nat) (r a t : Nat) (N : Int) : RI O nm vl w r a t N =
    some (outI (vl (back w)) (rgI O nm r a t) N (it O nm r a t N.toNat (back w) 0 0), gdB (bad (vl (back w)) (rgI O nm r a t)) (gdB (rnI N) [pB (PreL N 0 (back w) a t)])) := by kernel_rfl
set_option maxRecDepth 100000 in
theorem RS_run (O : FOps) (nm : Nat → Bool) (vl : (Nat → Nat) → Bool) (w : Nat → Nat) (r a t : Nat) (N : Int) : RS O nm vl w r a t N =
    some (outS (vl (back w)) (rgS O nm r a t) N (it O nm r a t N.toNat (back w) 0 0), gdB (bad2 (vl (back w)) (rgS O nm r a t) N) [pB (PreL N 0 (back w) a t)]) := by kernel_rfl
theorem rg_eq (O : FOps) (nm : Nat → Bool) (r a t : Nat) : rgI O nm r a t = rgS O nm r a t := by
  unfold rgI rgS
  show (bif !(bif nm r then true else false) then _ else _) = _
  cases nm r <;> cases shareB O a <;> cases shareB O t <;> rfl
theorem rn_eq (N : Int) : inS' N = !rnI N := by
  unfold inS' rnI
  by_cases h : N < 0
  · rw [decide_eq_true h, decide_eq_false (by omega : ¬ 0 ≤ N)]; rfl
  · rw [decide_eq_false h, decide_eq_true (by omega : 0 ≤ N)]
    by_cases h2 : N ≤ 300
    · rw [decide_eq_true h2, decide_eq_false (by omega : ¬ 300 < N)]; rfl
    · rw [decide_eq_false h2, decide_eq_true (by omega : 300 < N)]; rfl
theorem out_eq (V R : Bool) (N : Int) (X : X3) : outS V R N X = outI V R N X := by
  unfold outS outI bad2 code2
  rw [rn_eq]
  cases hr : rnI N <;> cases V <;> cases R <;> rfl
theorem share_rg {r a t : Nat} (hg : rgI fops isNum r a t = false) : Share a ∧ Share t := by
  rw [rg_eq] at hg
  unfold rgS at hg
  cases h1 : shareB fops a with
  | false => rw [h1] at hg; cases h2 : isNum r <;> rw [h2] at hg <;> cases hg
  | true =>
    cases h3 : shareB fops t with
    | false => rw [h1, h3] at hg; cases h2 : isNum r <;> rw [h2] at hg <;> cases hg
    | true => exact ⟨share_of h1, share_of h3⟩
theorem bad_false {V R : Bool} (h : bad V R = false) : V = true ∧ R = false := by
  cases V <;> cases R <;> first | exact ⟨rfl, rfl⟩ | (exact absurd h (by decide))
theorem bad2_false {V R : Bool} {N : Int} (h : bad2 V R N = false) : V = true ∧ R = false ∧ rnI N = false := by
  unfold bad2 code2 at h
  rw [rn_eq] at h
  cases hr : rnI N <;> rw [hr] at h <;> cases V <;> cases R <;> first | exact ⟨rfl, rfl, rfl⟩ | (exact absurd h (by decide))
theorem rn_false {N : Int} (h : rnI N = false) : 0 ≤ N ∧ N ≤ 300 := by
  unfold rnI at h
  by_cases h0 : N < 0
  · rw [decide_eq_true h0] at h; cases h
  · rw [decide_eq_false h0] at h
    have := of_decide_eq_false (show decide (300 < N) = false from h)
    omega
theorem pre_ok {w : Nat → Nat} (hc : ∀ i, i < 18 → Cn .f32 (w i)) {r a t : Nat} {N : Int} (hv : valid (back w) = true) (hg : rgI fops isNum r a t = false) (hn : rnI N = false) : pB (PreL N 0 (back w) a t) = true := by
  obtain ⟨h1, h2⟩ := share_rg hg
  obtain ⟨h3, h4⟩ := rn_false hn
  have hi : Inv (back w) := inv_of (back_cn hc) hv
  exact pB_iff.2 ⟨rfl, h3, by omega, hi, h1, h2⟩
/-- What both give. -/
noncomputable def wF (V R : Bool) (N : Int) (X : X3) (i : Nat) : Nat := bif bad V R then 0 else bif rnI N then 0 else bif isN X then 0 else gW X i
noncomputable def sF (V R : Bool) (N : Int) (X : X3) : Nat := bif bad V R then 0 else bif rnI N then 0 else bif isN X then 0 else gS' X
noncomputable def uF (V R : Bool) (N : Int) (X : X3) : Nat := bif bad V R then 0 else bif rnI N then 0 else bif isN X then 0 else gU X
noncomputable def cF (V R : Bool) (N : Int) (X : X3) : Int := bif bad V R then code V R else bif rnI N then 2 else bif isN X then 4 else 0
noncomputable def lgG (O : FOps) (nm : Nat → Bool) (vl : (Nat → Nat) → Bool) : List SV → Option SV
  | [v, .c (.flt .f32 r), .c (.flt .f32 a), .c (.flt .f32 t), .c (.int .i64 (.s N))] => match wdOf v with
    | some w => some (.tup [.a (wdL (wF (vl w) (rgI O nm r a t) N (it O nm r a t N.toNat w 0 0))), .c (.flt .f32 (sF (vl w) (rgI O nm r a t) N (it O nm r a t N.toNat w 0 0))), .c (.flt .f32 (uF (vl w) (rgI O nm r a t) N (it O nm r a t N.toNat w 0 0))), .c (.int .i64 (.s (cF (vl w) (rgI O nm r a t) N (it O nm r a t N.toNat w 0 0))))])
    | none => none
  | _ => none
set_option maxRecDepth 100000 in
theorem cImpl : CallOK Try.prog 47 (gS (lgG fops isNum valid)) := by
  have hb : Try.f47.body.isSome = true := by kernel_rfl
  obtain ⟨c, hc⟩ := Option.isSome_iff_exists.1 hb
  have h1 : (match Try.f47.body with | some c => onceB (loopsIn c) && (match loopAt 8 (loopsIn c) with | some _ => true | none => false) | none => false) = true := by kernel_rfl
  rw [hc] at h1
  simp only [Bool.and_eq_true] at h1
  refine gS_of2 (inlL_of (l := LR fops isNum valid) (ls := [(8, LI fops isNum)]) okLR mixed 8 Try.func47 (by kernel_rfl) (fun _ => none) hc h1.1 ⟨⟨_, bodyOf_at hc h1.2, okI⟩, trivial⟩) fun args x E vals hG hrel => ?_
  unfold lgG at hG
  split at hG <;> try (cases hG; done)
  split at hG <;> cases hG
  rename_i v r a t N _ w hw
  have hv := wdOf_ok hw
  subst hv
  have hcn : ∀ i, i < 18 → Cn .f32 (w i) := fun i hi => by
    match vals, hrel with
    | u :: _, hrel => exact wd_cn hrel.1 i hi
  refine ⟨rfl, _, _, RI_run fops isNum valid w r a t N, rfl, gdB_ok fun e1 => gdB_ok fun e2 => ?_, fun _ _ h => ?_⟩
  · obtain ⟨h2, h3⟩ := bad_false e1
    exact AllT.cons (pre_ok hcn h2 h3 e2) AllT.nil
  · rw [wdOf_back hw] at h; exact h
set_option maxRecDepth 100000 in
theorem cSpec : CallOK Try.prog 46 (gS (lgG fops isNum valid)) := by
  have hb : Try.f46.body.isSome = true := by kernel_rfl
  obtain ⟨c, hc⟩ := Option.isSome_iff_exists.1 hb
  have h1 : (match Try.f46.body with | some c => onceB (loopsIn c) && (match loopAt 9 (loopsIn c) with | some _ => true | none => false) | none => false) = true := by kernel_rfl
  rw [hc] at h1
  simp only [Bool.and_eq_true] at h1
  refine gS_of2 (inlL_of (l := LR fops isNum valid) (ls := [(9, LSp fops isNum)]) okLR mixed 8 Try.func46 (by kernel_rfl) (fun _ => none) hc h1.1 ⟨⟨_, bodyOf_at hc h1.2, okS⟩, trivial⟩) fun args x E vals hG hrel => ?_
  unfold lgG at hG
  split at hG <;> try (cases hG; done)
  split at hG <;> cases hG
  rename_i v r a t N _ w hw
  have hv := wdOf_ok hw
  subst hv
  have hcn : ∀ i, i < 18 → Cn .f32 (w i) := fun i hi => by
    match vals, hrel with
    | u :: _, hrel => exact wd_cn hrel.1 i hi
  refine ⟨rfl, _, _, RS_run fops isNum valid w r a t N, rfl, gdB_ok fun e1 => ?_, fun _ _ h => ?_⟩
  · rw [← rg_eq] at e1
    obtain ⟨h2, h3, h4⟩ := bad2_false e1
    exact AllT.cons (pre_ok hcn h2 h3 h4) AllT.nil
  · rw [out_eq, ← rg_eq, wdOf_back hw] at h; exact h
/-! ### the law -/
noncomputable def L3 (O : FOps) (nm : Nat → Bool) (vl : (Nat → Nat) → Bool) : List (Nat × CS) := [(47, gS (lgG O nm vl)), (46, gS (lgG O nm vl)), (32, gS (sfG O)), (22, gS (eqG O))]
set_option maxRecDepth 100000 in
theorem okL3 : AllOK Try.prog (L3 fops isNum valid) := ⟨cImpl, cSpec, cSf, cEq, trivial⟩
noncomputable def B4 (O : FOps) (w : Nat → Nat) (s u : Nat) (c : Int) : Bool := bif (bif !eqW O (back w) (back w) then true else (bif !sf O (O.conv .f32 .f64 s) (O.conv .f32 .f64 s) then true else (bif !sf O (O.conv .f32 .f64 u) (O.conv .f32 .f64 u) then true else !decide (c = c)))) then false else true
noncomputable def B (O : FOps) (nm : Nat → Bool) (vl : (Nat → Nat) → Bool) (w : Nat → Nat) (r a t : Nat) (N : Int) : Bool := B4 O (wF (vl (back w)) (rgI O nm r a t) N (it O nm r a t N.toNat (back w) 0 0)) (sF (vl (back w)) (rgI O nm r a t) N (it O nm r a t N.toNat (back w) 0 0)) (uF (vl (back w)) (rgI O nm r a t) N (it O nm r a t N.toNat (back w) 0 0)) (cF (vl (back w)) (rgI O nm r a t) N (it O nm r a t N.toNat (back w) 0 0))
set_option maxRecDepth 100000 in
theorem law_run (O : FOps) (nm : Nat → Bool) (vl : (Nat → Nat) → Bool) (w : Nat → Nat) (r a t : Nat) (N : Int) : rE 1 (inl ⟨Try.prog, O, orcN Try.prog O (L3 O nm vl) 3⟩ Try.f14 ⟨fun _ => none, fun _ => none⟩ 1 [wd w, .c (.flt .f32 r), .c (.flt .f32 a), .c (.flt .f32 t), .c (.int .i64 (.s N))] []) = some (.c (.bool (.s (B O nm vl w r a t N))), []) := by kernel_rfl
theorem B_true (w : Nat → Nat) (r a t : Nat) (N : Int) : B fops isNum valid w r a t N = true := by
  unfold B B4
  simp [sf_self, eqW_self]
end
end Go.Proofs.Ytmikpabmlclpiaa.Lgs
