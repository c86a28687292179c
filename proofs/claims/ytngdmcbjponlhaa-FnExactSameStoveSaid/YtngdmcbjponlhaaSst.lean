/- Whether two stoves are the same, with any number of logs. Nothing is assumed. -/
import Derived.Test.YtngdmcbjponlhaaSto
namespace Go.Proofs.Ytngdmcbjponlhaa.Sst
open Go SlWood Stv Sto
noncomputable section
noncomputable def rw6 (w v : Nat → Nat) (i : Nat) : Bool :=
  bif !Nat.beq (w i) (v i) then false else bif !Nat.beq (w (i + 1)) (v (i + 1)) then false else bif !Nat.beq (w (i + 2)) (v (i + 2)) then false else
  bif !Nat.beq (w (i + 3)) (v (i + 3)) then false else bif !Nat.beq (w (i + 4)) (v (i + 4)) then false else bif !Nat.beq (w (i + 5)) (v (i + 5)) then false else true
noncomputable def same (w v : Nat → Nat) : Bool := bif rw6 w v 0 then (bif rw6 w v 6 then rw6 w v 12 else false) else false
noncomputable def swG : List SV → Option SV
  | [x, y] => match wdOf x with
    | some w => match wdOf y with
      | some v => some (.c (.bool (.s (same w v))))
      | none => none
    | none => none
  | _ => none
theorem wdOf_back' {v : SV} {w : Nat → Nat} (h : wdOf v = some w) : back w = w := by
  unfold wdOf at h
  split at h <;> try (cases h; done)
  split at h <;> try (cases h; done)
  rename_i xs hx
  split at h <;> cases h
  rename_i hl
  match xs, beqN.1 hl with
  | [a0, a1, a2, a3, a4, a5, a6, a7, a8, a9, a10, a11, a12, a13, a14, a15, a16, a17], _ => rfl
noncomputable def LN : List (Nat × CS) := [(55, sameS), (82, sameS)]
set_option maxRecDepth 100000 in
theorem okLN : AllOK Try.prog LN := ⟨cSameI, cSameL, trivial⟩
set_option maxRecDepth 100000 in
theorem swI_run (O : FOps) (w v : Nat → Nat) : rE 1 (inl ⟨Try.prog, O, orcN Try.prog O LN 8⟩ Try.f54 noH 1 [wd w, wd v] []) = some (.c (.bool (.s (same (back w) (back v)))), []) := by kernel_rfl
set_option maxRecDepth 100000 in
theorem swS_run (O : FOps) (w v : Nat → Nat) : rE 3 (inl ⟨Try.prog, O, orcN Try.prog O LN 8⟩ Try.f81 noH 3 [.c (.ptr 1 0), .c (.ptr 2 0)] [(1, ⟨false, false, .cells (wdL w)⟩), (2, ⟨false, false, .cells (wdL v)⟩)]) = some (.c (.bool (.s (same (back w) (back v)))), []) := by kernel_rfl
set_option maxRecDepth 100000 in
theorem cSwI : CallOK Try.prog 54 (gS swG) :=
  gS_of2 (inlN_of (l := LN) okLN mixed 8 Try.func54 (by kernel_rfl) (fun _ => none)) fun args x E vals hG hr => by
    unfold swG at hG
    split at hG <;> try (cases hG; done)
    split at hG <;> try (cases hG; done)
    rename_i w hw
    split at hG <;> cases hG
    rename_i v hv
    rw [wdOf_ok hw, wdOf_ok hv]
    refine ⟨rfl, _, _, swI_run fops w v, rfl, AllT.nil, fun _ _ h => ?_⟩
    rw [wdOf_back' hw, wdOf_back' hv] at h; exact h
set_option maxRecDepth 100000 in
theorem cSwS : CallOK Try.prog 81 (gQ [.p 18, .p 18] swG) :=
  gQ_of2 (inlN_of (l := LN) okLN mixed 8 Try.func81 (by kernel_rfl) (fun _ => none)) fun dl x E hG hv' => by
    unfold swG at hG
    split at hG <;> try (cases hG; done)
    split at hG <;> try (cases hG; done)
    rename_i w hw
    split at hG <;> cases hG
    rename_i v hv
    rw [wdOf_ok hw, wdOf_ok hv]
    refine ⟨_, _, swS_run fops w v, rfl, AllT.nil, fun _ _ h => ?_⟩
    rw [wdOf_back' hw, wdOf_back' hv] at h; exact h
noncomputable def LM2 : List (Nat × CS) := [(55, sameS), (82, sameS), (54, gS swG), (81, gQ [.p 18, .p 18] swG)]
set_option maxRecDepth 100000 in
theorem okLM2 : AllOK Try.prog LM2 := ⟨cSameI, cSameL, cSwI, cSwS, trivial⟩
noncomputable def cxM (O : FOps) : Cx := ⟨Try.prog, O, orcN Try.prog O LM2 8⟩
noncomputable def stK2 (i : Nat) : List KC := [.sl i 0 18 false, .flt .f32, .flt .f32, .int .i8, .int .i64, .flt .f32]
noncomputable def sgsM : List (Nat × KS) := [(1, ⟨false, false, .rows 18⟩), (2, ⟨false, false, .rows 18⟩), (3, ⟨true, true, .cells (stK2 2)⟩), (4, ⟨true, true, .cells (stK2 1)⟩)]
/-- The numbers of a stove. -/
structure St where
  a : Nat
  b : Nat
  s : Int
  t : Int
  c : Nat
noncomputable def St.d (x : St) (n : Int) : List LD := [.i n, .f x.a, .f x.b, .i x.s, .i x.t, .f x.c]
noncomputable def dS (n m : Int) (row row' : Int → List SC) (x y : St) : List LD := [.i m, .r row', .i n, .r row] ++ (x.d n ++ y.d m)
noncomputable def qM (F H : Nat → Int → Nat) (k : Int) : Bool := same (at18 F k) (at18 H k)
noncomputable def idx5 (n m k : Int) : List Bool := [decide (k < n), decide (0 ≤ k ∧ k < n), decide (0 ≤ k ∧ k < n), decide (0 ≤ k ∧ k < m), decide (0 ≤ k ∧ k < m)]
noncomputable def idx5' (n m k : Int) : List Bool := [decide (k < n), decide (0 ≤ k ∧ k < n), decide (0 ≤ k ∧ k < m), decide (0 ≤ k ∧ k < n), decide (0 ≤ k ∧ k < m)]
noncomputable def skI : Sk := ⟨[(2, .c (.ptr 3 0)), (3, .c (.ptr 4 0)), (29, .c (.sl 2 0 18 false)), (30, .c (.int .i64)), (31, .c (.int .i64))], sgsM, 5⟩
noncomputable def skR : Sk := ⟨[(4, .c (.boolc false))], [], 5⟩
noncomputable def skIE : Sk := ⟨[(2, .c (.ptr 3 0)), (3, .c (.ptr 4 0))], sgsM, 5⟩
noncomputable def NI : Nat := Try.f19.ntmps
noncomputable def goI (O : FOps) (u v : Bool) (sk : Sk) (F : Nat → Int → Nat) (G : Nat → Int → Int) (H : Nat → Int → Nat) (I : Nat → Int → Int) (n m k : Int) (x y : St) : Option (Option XK × List LD × List Bool) :=
  goL (cxM O) NI ⟨onV 32 43 u v, fun _ => none⟩ (bodyOf Try.f19 4) 5 60 skI [] sk ([.i n, .i n, .i k] ++ dS n m (Row F G) (Row H I) x y)
noncomputable def fl2 (F : Nat → Int → Nat) (G : Nat → Int → Int) (H : Nat → Int → Nat) (I : Nat → Int → Int) : List Bool := [flatR (Row H I), flatR (Row F G)]
set_option maxRecDepth 100000 in
theorem stI (O : FOps) (F : Nat → Int → Nat) (G : Nat → Int → Int) (H : Nat → Int → Nat) (I : Nat → Int → Int) (n m k : Int) (x y : St) : goI O true false skI F G H I n m k x y =
    some (none, [.i n, .i n, .i (IntKind.i64.wrap (k + 1))] ++ dS n m (Row F G) (Row H I) x y, idx5 n m k ++ ([!!(qM F H k)] ++ fl2 F G H I)) := by kernel_rfl
set_option maxRecDepth 100000 in
theorem reI (O : FOps) (F : Nat → Int → Nat) (G : Nat → Int → Int) (H : Nat → Int → Nat) (I : Nat → Int → Int) (n m k : Int) (x y : St) : goI O true true skR F G H I n m k x y =
    some (some .ret, [], idx5 n m k ++ [!(qM F H k)]) := by kernel_rfl
set_option maxRecDepth 100000 in
theorem enI (O : FOps) (F : Nat → Int → Nat) (G : Nat → Int → Int) (H : Nat → Int → Nat) (I : Nat → Int → Int) (n m k : Int) (x y : St) : goI O false true skIE F G H I n m k x y =
    some (some (.exit 0), dS n m (Row F G) (Row H I) x y, [!decide (k < n)] ++ fl2 F G H I) := by kernel_rfl
/-! ### spec.l02Same -/
noncomputable def skS : Sk := ⟨[(0, .c (.ptr 3 0)), (1, .c (.ptr 4 0)), (5, .c (.int .i64))], sgsM, 5⟩
noncomputable def skSE : Sk := ⟨[(0, .c (.ptr 3 0)), (1, .c (.ptr 4 0))], sgsM, 5⟩
noncomputable def NS : Nat := Try.f52.ntmps
noncomputable def goS (O : FOps) (u v : Bool) (sk : Sk) (F : Nat → Int → Nat) (G : Nat → Int → Int) (H : Nat → Int → Nat) (I : Nat → Int → Int) (n m k : Int) (x y : St) : Option (Option XK × List LD × List Bool) :=
  goL (cxM O) NS ⟨onV 45 61 u v, fun _ => none⟩ (bodyOf Try.f52 4) 5 60 skS [] sk ([.i k] ++ dS n m (Row F G) (Row H I) x y)
set_option maxRecDepth 100000 in
theorem stS (O : FOps) (F : Nat → Int → Nat) (G : Nat → Int → Int) (H : Nat → Int → Nat) (I : Nat → Int → Int) (n m k : Int) (x y : St) : goS O true false skS F G H I n m k x y =
    some (none, [.i (IntKind.i64.wrap (k + 1))] ++ dS n m (Row F G) (Row H I) x y, idx5' n m k ++ ([!!(qM F H k)] ++ fl2 F G H I)) := by kernel_rfl
set_option maxRecDepth 100000 in
theorem reS (O : FOps) (F : Nat → Int → Nat) (G : Nat → Int → Int) (H : Nat → Int → Nat) (I : Nat → Int → Int) (n m k : Int) (x y : St) : goS O true true skR F G H I n m k x y =
    some (some .ret, [], idx5' n m k ++ [!(qM F H k)]) := by kernel_rfl
set_option maxRecDepth 100000 in
theorem enS (O : FOps) (F : Nat → Int → Nat) (G : Nat → Int → Int) (H : Nat → Int → Nat) (I : Nat → Int → Int) (n m k : Int) (x y : St) : goS O false true skSE F G H I n m k x y =
    some (some (.exit 0), dS n m (Row F G) (Row H I) x y, [!decide (k < n)] ++ fl2 F G H I) := by kernel_rfl
noncomputable def PreM (n n1 k M N n2 m2 : Int) (row row' : Int → List SC) : Prop := n = n2 ∧ n1 = n2 ∧ k = 0 ∧ M = n2 ∧ N = n2 ∧ m2 = n2 ∧ 0 ≤ n2 ∧ n2 ≤ 1048576 ∧ Shape ts row ∧ Shape ts row'

theorem loI (F : Nat → Int → Nat) (G : Nat → Int → Int) (H : Nat → Int → Nat) (I : Nat → Int → Int) (n : Int) (hn : n ≤ 1048576) (x y : St) : ∀ (m : Nat) (k : Int), 0 ≤ k → k + m = n →
    (eqFrom (qM F H) k m = true → Loops (cxM fops) NI (fun _ => none) (bodyOf Try.f19 4) 5 60 skI ([.i n, .i n, .i k] ++ dS n n (Row F G) (Row H I) x y) (.exit 0) skIE (dS n n (Row F G) (Row H I) x y)) ∧
    (eqFrom (qM F H) k m = false → Loops (cxM fops) NI (fun _ => none) (bodyOf Try.f19 4) 5 60 skI ([.i n, .i n, .i k] ++ dS n n (Row F G) (Row H I) x y) .ret skR []) := by
  have fl : AllT (fl2 F G H I) := AllT.cons (rowK_flat _ _ _) (AllT.cons (rowK_flat _ _ _) AllT.nil)
  intro m
  induction m with
  | zero =>
    intro k hk hkn
    have e : k = n := by omega
    subst e
    refine ⟨fun _ => .done (ts := onV 32 43 false true) (ρ := []) (enI fops F G H I k k k x y) (AllT.cons (by simp) fl), fun h => by cases h⟩
  | succ m ih =>
    intro k hk hkn
    have hlt : k < n := by omega
    obtain ⟨i1, i2⟩ := ih (k + 1) (by omega) (by omega)
    have hE : eqFrom (qM F H) k (m + 1) = bif qM F H k then eqFrom (qM F H) (k + 1) m else false := rfl
    have h2 : decide (0 ≤ k ∧ k < n) = true := by simp; omega
    have hd : decide (k < n) = true := by simpa using hlt
    have hix : AllT (idx5 n n k) := AllT.cons hd (AllT.cons h2 (AllT.cons h2 (AllT.cons h2 (AllT.cons h2 AllT.nil))))
    rw [hE]
    cases hq : qM F H k with
    | true =>
      have h1 := stI fops F G H I n n k x y
      rw [wrap_succ hk (by omega)] at h1
      have ho : AllT (idx5 n n k ++ ([!!(qM F H k)] ++ fl2 F G H I)) := AllT.app hix (AllT.app (AllT.cons (by rw [hq]; rfl) AllT.nil) fl)
      exact ⟨fun h => .step (ts := onV 32 43 true false) (ρ := []) h1 ho (i1 h), fun h => .step (ts := onV 32 43 true false) (ρ := []) h1 ho (i2 h)⟩
    | false =>
      refine ⟨fun h => (by cases h), fun _ => .done (ts := onV 32 43 true true) (ρ := []) (reI fops F G H I n n k x y) (AllT.app hix (AllT.cons (by rw [hq]; rfl) AllT.nil))⟩
noncomputable def FI : List LD → Option (XO × List Bool)
  | [.i n, .i n1, .i k, .i M, .r row', .i N, .r row, .i n2, .f a, .f b, .i s, .i t, .f c, .i m2, .f a', .f b', .i s', .i t', .f c'] =>
    some ([(.s (!eqFrom (qM (datF row) (datF row')) 0 n2.toNat), .ret, skR, []), (.t, .exit 0, skIE, [.i M, .r row', .i N, .r row, .i n2, .f a, .f b, .i s, .i t, .f c, .i m2, .f a', .f b', .i s', .i t', .f c'])], [pB (PreM n n1 k M N n2 m2 row row')])
  | _ => none
noncomputable def LI (O : FOps) : List Ly → Top → Option Outs := orIter (cxM O) NI (bodyOf Try.f19 4) (loopL NI 5 60 skI [] FI)
set_option maxRecDepth 100000 in
theorem okI : CodeOK Try.prog NI (.loop (bodyOf Try.f19 4)) (LI fops) := by
  refine orIter_ok (l := LM2) okLM2 mixed 8 (loopL_ok (cx := cxM fops) (lp := fun _ => none) (fun ts => body_ok (l := LM2) okLM2 mixed 8 _ ts) fun p r hr hob => ?_)
  unfold FI at hr
  split at hr <;> cases hr
  rename_i n n1 k M row' N row n2 a b s t c m2 a' b' s' t' c'
  obtain ⟨e1, e2, e3, e4, e5, e6, h0, hm, hs, hs'⟩ := pB_iff.1 hob.head
  obtain ⟨h1, h2⟩ := loI (datF row) (datG row) (datF row') (datG row') n2 hm ⟨a, b, s, t, c⟩ ⟨a', b', s', t', c'⟩ n2.toNat 0 (Int.le_refl _) (by omega)
  have hs1 : Row (datF row) (datG row) = row := hs.symm
  have hs2 : Row (datF row') (datG row') = row' := hs'.symm
  rw [hs1, hs2] at h1 h2
  rw [e1, e2, e3, e4, e5, e6]
  cases hq : eqFrom (qM (datF row) (datF row')) 0 n2.toNat with
  | true => exact ⟨.exit 0, skIE, dS n2 n2 row row' ⟨a, b, s, t, c⟩ ⟨a', b', s', t', c'⟩, by simp [pickX, SB.val, dS, St.d], h1 hq⟩
  | false => exact ⟨.ret, skR, [], by simp [pickX, SB.val], h2 hq⟩

theorem loS (F : Nat → Int → Nat) (G : Nat → Int → Int) (H : Nat → Int → Nat) (I : Nat → Int → Int) (n : Int) (hn : n ≤ 1048576) (x y : St) : ∀ (m : Nat) (k : Int), 0 ≤ k → k + m = n →
    (eqFrom (qM F H) k m = true → Loops (cxM fops) NS (fun _ => none) (bodyOf Try.f52 4) 5 60 skS ([.i k] ++ dS n n (Row F G) (Row H I) x y) (.exit 0) skSE (dS n n (Row F G) (Row H I) x y)) ∧
    (eqFrom (qM F H) k m = false → Loops (cxM fops) NS (fun _ => none) (bodyOf Try.f52 4) 5 60 skS ([.i k] ++ dS n n (Row F G) (Row H I) x y) .ret skR []) := by
  have fl : AllT (fl2 F G H I) := AllT.cons (rowK_flat _ _ _) (AllT.cons (rowK_flat _ _ _) AllT.nil)
  intro m
  induction m with
  | zero =>
    intro k hk hkn
    have e : k = n := by omega
    subst e
    refine ⟨fun _ => .done (ts := onV 45 61 false true) (ρ := []) (enS fops F G H I k k k x y) (AllT.cons (by simp) fl), fun h => by cases h⟩
  | succ m ih =>
    intro k hk hkn
    have hlt : k < n := by omega
    obtain ⟨i1, i2⟩ := ih (k + 1) (by omega) (by omega)
    have hE : eqFrom (qM F H) k (m + 1) = bif qM F H k then eqFrom (qM F H) (k + 1) m else false := rfl
    have h2 : decide (0 ≤ k ∧ k < n) = true := by simp; omega
    have hd : decide (k < n) = true := by simpa using hlt
    have hix : AllT (idx5' n n k) := AllT.cons hd (AllT.cons h2 (AllT.cons h2 (AllT.cons h2 (AllT.cons h2 AllT.nil))))
    rw [hE]
    cases hq : qM F H k with
    | true =>
      have h1 := stS fops F G H I n n k x y
      rw [wrap_succ hk (by omega)] at h1
      have ho : AllT (idx5' n n k ++ ([!!(qM F H k)] ++ fl2 F G H I)) := AllT.app hix (AllT.app (AllT.cons (by rw [hq]; rfl) AllT.nil) fl)
      exact ⟨fun h => .step (ts := onV 45 61 true false) (ρ := []) h1 ho (i1 h), fun h => .step (ts := onV 45 61 true false) (ρ := []) h1 ho (i2 h)⟩
    | false =>
      refine ⟨fun h => (by cases h), fun _ => .done (ts := onV 45 61 true true) (ρ := []) (reS fops F G H I n n k x y) (AllT.app hix (AllT.cons (by rw [hq]; rfl) AllT.nil))⟩
noncomputable def FS : List LD → Option (XO × List Bool)
  | [.i k, .i M, .r row', .i N, .r row, .i n2, .f a, .f b, .i s, .i t, .f c, .i m2, .f a', .f b', .i s', .i t', .f c'] =>
    some ([(.s (!eqFrom (qM (datF row) (datF row')) 0 n2.toNat), .ret, skR, []), (.t, .exit 0, skSE, [.i M, .r row', .i N, .r row, .i n2, .f a, .f b, .i s, .i t, .f c, .i m2, .f a', .f b', .i s', .i t', .f c'])], [pB (PreM n2 n2 k M N n2 m2 row row')])
  | _ => none
noncomputable def LSm (O : FOps) : List Ly → Top → Option Outs := orIter (cxM O) NS (bodyOf Try.f52 4) (loopL NS 5 60 skS [] FS)
set_option maxRecDepth 100000 in
theorem okS : CodeOK Try.prog NS (.loop (bodyOf Try.f52 4)) (LSm fops) := by
  refine orIter_ok (l := LM2) okLM2 mixed 8 (loopL_ok (cx := cxM fops) (lp := fun _ => none) (fun ts => body_ok (l := LM2) okLM2 mixed 8 _ ts) fun p r hr hob => ?_)
  unfold FS at hr
  split at hr <;> cases hr
  rename_i k M row' N row n2 a b s t c m2 a' b' s' t' c'
  obtain ⟨e1, e2, e3, e4, e5, e6, h0, hm, hs, hs'⟩ := pB_iff.1 hob.head
  obtain ⟨h1, h2⟩ := loS (datF row) (datG row) (datF row') (datG row') n2 hm ⟨a, b, s, t, c⟩ ⟨a', b', s', t', c'⟩ n2.toNat 0 (Int.le_refl _) (by omega)
  have hs1 : Row (datF row) (datG row) = row := hs.symm
  have hs2 : Row (datF row') (datG row') = row' := hs'.symm
  rw [hs1, hs2] at h1 h2
  rw [e3, e4, e5, e6]
  cases hq : eqFrom (qM (datF row) (datF row')) 0 n2.toNat with
  | true => exact ⟨.exit 0, skSE, dS n2 n2 row row' ⟨a, b, s, t, c⟩ ⟨a', b', s', t', c'⟩, by simp [pickX, SB.val, dS, St.d], h1 hq⟩
  | false => exact ⟨.ret, skR, [], by simp [pickX, SB.val], h2 hq⟩
/-! ### told by hand -/
noncomputable def stL2 (i : Nat) (f : Bool) (n : Int) (x : St) : List SC := [.sl i 0 18 (.s n) f, .flt .f32 x.a, .flt .f32 x.b, .int .i8 (.s x.s), .int .i64 (.s x.t), .flt .f32 x.c]
noncomputable def df (n m : Int) (x y : St) : Bool := bif !decide (n = m) then true else bif !decide (x.s = y.s) then true else !decide (x.t = y.t)
/-- Whether two stoves are the same. -/
noncomputable def sR (n m : Int) (row row' : Int → List SC) (x y : St) : Bool := bif df n m x y then false else bif !eqFrom (qM (datF row) (datF row')) 0 n.toNat then false else bif Nat.beq x.a y.a then (bif Nat.beq x.b y.b then Nat.beq x.c y.c else false) else false
set_option maxRecDepth 100000 in
theorem I_run (O : FOps) (f w o f' w' o' : Bool) (n N m M : Int) (row row' : Int → List SC) (x y : St) : roS (inl (cxM O) Try.f19 ⟨fun _ => none, lpOf [(4, LI O)]⟩) 3 [.a (stL2 2 f n x), .a (stL2 1 f' m y)] [(1, ⟨w', o', .rows 18 M row'⟩), (2, ⟨w, o, .rows 18 N row⟩)] =
    some ⟨.c (.bool (.s (sR n m row row' x y))), [], 60, gdB (df n m x y) [flatR row', flatR row, pB (PreM n n 0 M N n m row row')]⟩ := by kernel_rfl
set_option maxRecDepth 100000 in
theorem cI0 : CallOK Try.prog 19 (inl (cxM fops) Try.f19 ⟨fun _ => none, lpOf [(4, LI fops)]⟩) := by
  have hb : Try.f19.body.isSome = true := by kernel_rfl
  obtain ⟨c, hc⟩ := Option.isSome_iff_exists.1 hb
  have h1 : (match Try.f19.body with | some c => onceB (loopsIn c) && (match loopAt 4 (loopsIn c) with | some _ => true | none => false) | none => false) = true := by kernel_rfl
  rw [hc] at h1
  simp only [Bool.and_eq_true] at h1
  exact inlL_of (l := LM2) (ls := [(4, LI fops)]) okLM2 mixed 8 Try.func19 (by kernel_rfl) (fun _ => none) hc h1.1 ⟨⟨_, bodyOf_at hc h1.2, okI⟩, trivial⟩
set_option maxRecDepth 100000 in
theorem cS0 : CallOK Try.prog 52 (inl (cxM fops) Try.f52 ⟨fun _ => none, lpOf [(4, LSm fops)]⟩) := by
  have hb : Try.f52.body.isSome = true := by kernel_rfl
  obtain ⟨c, hc⟩ := Option.isSome_iff_exists.1 hb
  have h1 : (match Try.f52.body with | some c => onceB (loopsIn c) && (match loopAt 4 (loopsIn c) with | some _ => true | none => false) | none => false) = true := by kernel_rfl
  rw [hc] at h1
  simp only [Bool.and_eq_true] at h1
  exact inlL_of (l := LM2) (ls := [(4, LSm fops)]) okLM2 mixed 8 Try.func52 (by kernel_rfl) (fun _ => none) hc h1.1 ⟨⟨_, bodyOf_at hc h1.2, okS⟩, trivial⟩
noncomputable def LM3 (O : FOps) : List (Nat × CS) := (52, inl (cxM O) Try.f52 ⟨fun _ => none, lpOf [(4, LSm O)]⟩) :: LM2
set_option maxRecDepth 100000 in
theorem okLM3 : AllOK Try.prog (LM3 fops) := ⟨cS0, okLM2⟩
set_option maxRecDepth 100000 in
theorem S_run (O : FOps) (f w o f' w' o' : Bool) (n N m M : Int) (row row' : Int → List SC) (x y : St) : roS (inl ⟨Try.prog, O, orcN Try.prog O (LM3 O) 8⟩ Try.f17 noH) 3 [.a (stL2 2 f n x), .a (stL2 1 f' m y)] [(1, ⟨w', o', .rows 18 M row'⟩), (2, ⟨w, o, .rows 18 N row⟩)] =
    some ⟨.c (.bool (.s (sR n m row row' x y))), [], 60, gdB (df n m x y) [flatR row', flatR row, pB (PreM n n 0 M N n m row row')]⟩ := by kernel_rfl
noncomputable def smH : CS := fun base args rd => match args with
  | [.a [.sl i o es (.s n) _, .flt .f32 a, .flt .f32 b, .int .i8 (.s s), .int .i64 (.s t), .flt .f32 c], .a [.sl i' o' es' (.s m) _, .flt .f32 a', .flt .f32 b', .int .i8 (.s s'), .int .i64 (.s t'), .flt .f32 c']] => match rd with
    | [(j', ⟨_, _, .rows st' M row'⟩), (j, ⟨_, _, .rows st N row⟩)] => match Nat.beq base 3 && (Nat.beq i 2 && (Nat.beq o 0 && (Nat.beq es 18 && (Nat.beq j 2 && (Nat.beq st 18 && (Nat.beq i' 1 && (Nat.beq o' 0 && (Nat.beq es' 18 && (Nat.beq j' 1 && Nat.beq st' 18))))))))) with
      | true => some ⟨.c (.bool (.s (sR n m row row' ⟨a, b, s, t, c⟩ ⟨a', b', s', t', c'⟩))), [], 60, [okE' n N row m M row']⟩
      | false => none
    | _ => none
  | _ => none
theorem ob_ok {n N m M : Int} {row row' : Int → List SC} {x y : St} (h : AllT [okE' n N row m M row']) : AllT (gdB (df n m x y) [flatR row', flatR row, pB (PreM n n 0 M N n m row row')]) := gdB_ok fun hg => by
  have hnm : decide (n = m) = true := by
    unfold df at hg
    cases hd : decide (n = m) with
    | true => rfl
    | false => rw [hd] at hg; cases hg
  have ho := h.head
  unfold okE' at ho
  rw [hnm] at ho
  obtain ⟨e1, e2, h0, hm, hs, hs'⟩ := pB_iff.1 (show pB _ = true from ho)
  exact AllT.cons (shape_flat hs') (AllT.cons (shape_flat hs) (AllT.cons (pB_iff.2 ⟨rfl, rfl, rfl, e2, e1, (of_decide_eq_true hnm).symm, h0, hm, hs, hs'⟩) AllT.nil))
noncomputable def smI (O : FOps) : CS := orS (canS smH) (inl (cxM O) Try.f19 noH)
noncomputable def smS (O : FOps) : CS := orS (canS smH) (inl (cxM O) Try.f17 noH)
set_option maxRecDepth 100000 in
theorem cSmI : CallOK Try.prog 19 (smI fops) :=
  (CallOK.hand (H := smH) cI0.ro fun b args rd e h hob => by
    unfold smH at h
    split at h <;> try (cases h; done)
    rename_i i o es n f xa xb s t xc i' o' es' m f' xa' xb' s' t' xc'
    split at h <;> try (cases h; done)
    rename_i j' w' p' st' M row' j w p st N row
    split at h <;> cases h
    rename_i hc
    simp only [Bool.and_eq_true, beqN] at hc
    obtain ⟨rfl, rfl, rfl, rfl, rfl, rfl, rfl, rfl, rfl, rfl, rfl⟩ := hc
    exact ⟨_, I_run fops f w p f' w' p' n N m M row row' ⟨xa, xb, s, t, xc⟩ ⟨xa', xb', s', t', xc'⟩, ob_ok hob⟩).can.or
    (inlN_of (l := LM2) okLM2 mixed 8 Try.func19 (by kernel_rfl) (fun _ => none))
set_option maxRecDepth 100000 in
theorem cSmS : CallOK Try.prog 17 (smS fops) :=
  (CallOK.hand (H := smH) (inlN_of (l := LM3 fops) okLM3 mixed 8 Try.func17 (by kernel_rfl) (fun _ => none)).ro fun b args rd e h hob => by
    unfold smH at h
    split at h <;> try (cases h; done)
    rename_i i o es n f xa xb s t xc i' o' es' m f' xa' xb' s' t' xc'
    split at h <;> try (cases h; done)
    rename_i j' w' p' st' M row' j w p st N row
    split at h <;> cases h
    rename_i hc
    simp only [Bool.and_eq_true, beqN] at hc
    obtain ⟨rfl, rfl, rfl, rfl, rfl, rfl, rfl, rfl, rfl, rfl, rfl⟩ := hc
    exact ⟨_, S_run fops f w p f' w' p' n N m M row row' ⟨xa, xb, s, t, xc⟩ ⟨xa', xb', s', t', xc'⟩, ob_ok hob⟩).can.or
    (inlN_of (l := LM2) okLM2 mixed 8 Try.func17 (by kernel_rfl) (fun _ => none))
/-! ### the law -/
noncomputable def L3 (O : FOps) (vl : (Nat → Nat) → Bool) : List (Nat × CS) := (19, smI O) :: (17, smS O) :: LW O vl
set_option maxRecDepth 100000 in
theorem okL3 : AllOK Try.prog (L3 fops valid) := ⟨cSmI, cSmS, okLW⟩
noncomputable def run (O : FOps) (vl : (Nat → Nat) → Bool) (hl : List (Nat × Bool)) (b : Nat) (v v' : SV) (rd : List (Nat × Seg)) : Option (SV × List Bool) :=
  rE b (inl ⟨Try.prog, O, orcN Try.prog O (L3 O vl) 8⟩ Try.f3 ⟨hint hl, fun _ => none⟩ b [v, v'] rd)
noncomputable def rd2 (F : Nat → Int → Nat) (G : Nat → Int → Int) (n : Int) (H : Nat → Int → Nat) (I : Nat → Int → Int) (m : Int) : List (Nat × Seg) := [(1, ⟨false, false, .rows 18 n (Row F G)⟩), (2, ⟨false, false, .rows 18 m (Row H I)⟩)]
noncomputable def szf (l n : Int) : Int := bif decide ((bif decide (IntKind.i64.wrap (l - n) < 0) then (-1 : Int) else IntKind.i64.wrap (l - n)) < 0) then -1 else bif decide (IntKind.i64.wrap (l - n) < 0) then -1 else IntKind.i64.wrap (l - n)
noncomputable def lf2 (n m : Int) : Int := szf (lf n) m
noncomputable def hLaw : List (Nat × Bool) := [(14, false), (19, false), (34, false), (39, false), (44, false)]
noncomputable def oS (n m : Int) (row row' : Int → List SC) : List Bool := [flatR row', flatR row, okE' n n row m m row']
noncomputable def eqX (O : FOps) (n : Int) (R : Int → List SC) (x : St) : Bool := eqT O (eqR O n n R R) x.a x.b x.s x.t x.c
noncomputable def ob (O : FOps) (F : Nat → Int → Nat) (G : Nat → Int → Int) (n : Int) (H : Nat → Int → Nat) (I : Nat → Int → Int) (m : Int) (x y : St) : List Bool :=
  [!decide (lf n < 0), !decide (lf2 n m < 0)] ++ oC F G n ++ oC H I m ++ oS n m (R1 F G n) (R1 H I m) ++ oC F G n ++ oC H I m ++ oS n m (R1 F G n) (R1 H I m) ++ [!!(sR n m (R1 F G n) (R1 H I m) x y == sR n m (R1 F G n) (R1 H I m) x y)] ++
  oC F G n ++ oE n (R1 F G n) (R1 F G n) ++ [!!eqX O n (R1 F G n) x] ++ oC H I m ++ oE m (R1 H I m) (R1 H I m) ++ [!!eqX O m (R1 H I m) y]
set_option maxRecDepth 100000 in
theorem run_ok (O : FOps) (vl : (Nat → Nat) → Bool) (F : Nat → Int → Nat) (G : Nat → Int → Int) (n : Int) (H : Nat → Int → Nat) (I : Nat → Int → Int) (m : Int) (x y : St) :
    run O vl hLaw 3 (.a (stL2 1 false n x)) (.a (stL2 2 false m y)) (rd2 F G n H I m) = some (.c (.bool .t), ob O F G n H I m x y) := by kernel_rfl
set_option maxRecDepth 100000 in
theorem run_big (O : FOps) (vl : (Nat → Nat) → Bool) (F : Nat → Int → Nat) (G : Nat → Int → Int) (n : Int) (H : Nat → Int → Nat) (I : Nat → Int → Int) (m : Int) (x y : St) :
    run O vl [(14, true)] 3 (.a (stL2 1 false n x)) (.a (stL2 2 false m y)) (rd2 F G n H I m) = some (.c (.bool .t), [decide (lf n < 0)]) := by kernel_rfl
set_option maxRecDepth 100000 in
theorem run_big2 (O : FOps) (vl : (Nat → Nat) → Bool) (F : Nat → Int → Nat) (G : Nat → Int → Int) (n : Int) (H : Nat → Int → Nat) (I : Nat → Int → Int) (m : Int) (x y : St) :
    run O vl [(14, false), (19, true)] 3 (.a (stL2 1 false n x)) (.a (stL2 2 false m y)) (rd2 F G n H I m) = some (.c (.bool .t), [!decide (lf n < 0), decide (lf2 n m < 0)]) := by kernel_rfl
noncomputable def stL0 (i : Nat) (x : St) : List SC := [.sl i 0 18 (.c 0) false, .flt .f32 x.a, .flt .f32 x.b, .int .i8 (.s x.s), .int .i64 (.s x.t), .flt .f32 x.c]
noncomputable def sR0 (x y : St) : Bool := bif (bif !decide (x.s = y.s) then true else !decide (x.t = y.t)) then false else bif Nat.beq x.a y.a then (bif Nat.beq x.b y.b then Nat.beq x.c y.c else false) else false
set_option maxRecDepth 100000 in
theorem run0_ok (O : FOps) (vl : (Nat → Nat) → Bool) (x y : St) :
    run O vl hLaw 3 (.a (stL0 1 x)) (.a (stL0 2 y)) [] = some (.c (.bool .t), [!!(sR0 x y == sR0 x y), !!eqT O true x.a x.b x.s x.t x.c, !!eqT O true y.a y.b y.s y.t y.c]) := by kernel_rfl
theorem lf_val {n : Int} (h0 : 0 ≤ n) (h1 : n ≤ 1048576) : lf n = 1048576 - n := by
  unfold lf
  rw [wrap_in (by omega) (by omega)]
  have e : decide (1048576 - n < 0) = false := by simp; omega
  rw [e]
  simp [e]
theorem szf_small {l n : Int} (h0 : 0 ≤ n) (h1 : n ≤ l) (h2 : l ≤ 1048576) : decide (szf l n < 0) = false := by
  unfold szf
  rw [wrap_in (by omega) (by omega)]
  have e : decide (l - n < 0) = false := by simp; omega
  rw [e]
  simp [e]
theorem szf_big {l n : Int} (h : 0 ≤ l) (h0 : l < n) (h1 : n ≤ 9223372036854775807) : decide (szf l n < 0) = true := by
  unfold szf
  rw [wrap_in (by omega) (by omega)]
  have e : decide (l - n < 0) = true := by simp; omega
  rw [e]
  simp
theorem law_all (F : Nat → Int → Nat) (G : Nat → Int → Int) {n : Int} (h0 : 0 ≤ n) (hmax : n ≤ 9223372036854775807) (H : Nat → Int → Nat) (I : Nat → Int → Int) {m : Int} (k0 : 0 ≤ m) (kmax : m ≤ 9223372036854775807) (x y : St) :
    ∃ hl o, run fops valid hl 3 (.a (stL2 1 false n x)) (.a (stL2 2 false m y)) (rd2 F G n H I m) = some (.c (.bool .t), o) ∧ AllT o := by
  by_cases hb : 1048576 < n
  · exact ⟨_, _, run_big fops valid F G n H I m x y, AllT.one (lf_big hb hmax)⟩
  · have h1 : n ≤ 1048576 := by omega
    by_cases hb2 : 1048576 - n < m
    · refine ⟨_, _, run_big2 fops valid F G n H I m x y, AllT.cons (by rw [lf_small h0 h1]; rfl) (AllT.one ?_)⟩
      unfold lf2; rw [lf_val h0 h1]; exact szf_big (by omega) hb2 kmax
    · have k1 : m ≤ 1048576 := by omega
      refine ⟨_, _, run_ok fops valid F G n H I m x y, ?_⟩
      have c1 := oC_ok F G h0 h1
      have c2 := oC_ok H I k0 k1
      have e1 := oE_ok (r1_shape F G n) (r1_shape F G n) h0 h1
      have e2 := oE_ok (r1_shape H I m) (r1_shape H I m) k0 k1
      have s1 : AllT (oS n m (R1 F G n) (R1 H I m)) := AllT.cons (shape_flat (r1_shape H I m)) (AllT.cons (shape_flat (r1_shape F G n)) (AllT.one (by
        unfold okE'
        by_cases e : n = m
        · have : pB (n = n ∧ m = n ∧ 0 ≤ n ∧ n ≤ 1048576 ∧ Shape ts (R1 F G n) ∧ Shape ts (R1 H I m)) = true := pB_iff.2 ⟨rfl, e.symm, h0, h1, r1_shape F G n, r1_shape H I m⟩
          rw [this, Bool.or_true]
        · simp [e])))
      have x1 : eqX fops n (R1 F G n) x = true := eqT_q _ _ _ _ _ _ _
      have x2 : eqX fops m (R1 H I m) y = true := eqT_q _ _ _ _ _ _ _
      have t1 : decide (lf2 n m < 0) = false := by unfold lf2; rw [lf_val h0 h1]; exact szf_small k0 (by omega) (by omega)
      unfold ob
      rw [x1, x2, t1, lf_small h0 h1]
      simp only [AllT.iff_app]
      exact ⟨⟨⟨⟨⟨⟨⟨⟨⟨⟨⟨⟨⟨AllT.cons rfl (AllT.one rfl), c1⟩, c2⟩, s1⟩, c1⟩, c2⟩, s1⟩, AllT.one (by simp)⟩, c1⟩, e1⟩, AllT.one rfl⟩, c2⟩, e2⟩, AllT.one rfl⟩
theorem law_all0 (x y : St) : ∃ hl o, run fops valid hl 3 (.a (stL0 1 x)) (.a (stL0 2 y)) [] = some (.c (.bool .t), o) ∧ AllT o :=
  ⟨_, _, run0_ok fops valid x y, AllT.cons (by simp) (AllT.cons (by rw [eqT_true rfl]; rfl) (AllT.one (by rw [eqT_true rfl]; rfl)))⟩
end
end Go.Proofs.Ytngdmcbjponlhaa.Sst
