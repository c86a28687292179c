/- Whether two chimneys are the same, with any number of flues. Nothing is assumed. -/
import Derived.Test.YtohmpnnncpjjlaaChy
namespace Go.Proofs.Ytohmpnnncpjjlaa.Chs
open Go SlFlue Chy
noncomputable section
noncomputable def LN : List (Nat × CS) := [(93, sameS), (92, sameS)]
set_option maxRecDepth 100000 in
theorem okLN : AllOK Try.prog LN := ⟨cSameI, cSameL, trivial⟩
noncomputable def cxM (O : FOps) : Cx := ⟨Try.prog, O, orcN Try.prog O LN 8⟩
noncomputable def sg : List (Nat × KS) := [(1, ⟨false, false, .rows 5⟩), (2, ⟨false, false, .rows 5⟩)]
noncomputable def skR : Sk := ⟨[(4, .c (.boolc false))], [], 3⟩
noncomputable def skE : Sk := ⟨[], [], 3⟩
noncomputable def sm (F H : Nat → Int → Nat) (c : Nat) (k : Int) : Bool := Nat.beq (F c k) (H c k)
noncomputable def sa (F H : Nat → Int → Nat) (k : Int) : Bool := bif !sm F H 0 k then false else bif !sm F H 1 k then false else bif !sm F H 2 k then false else bif !sm F H 3 k then false else true
noncomputable def tI (F : Nat → Int → Nat) (G : Nat → Int → Int) (H : Nat → Int → Nat) (I : Nat → Int → Int) (k : Int) : Bool := bif !decide (G 4 k = I 4 k) then true else !sa F H k
noncomputable def tS (F : Nat → Int → Nat) (G : Nat → Int → Int) (H : Nat → Int → Nat) (I : Nat → Int → Int) (k : Int) : Bool :=
  bif !sm F H 0 k then true else bif !sm F H 1 k then true else bif !sm F H 2 k then true else bif !sm F H 3 k then true else !decide (G 4 k = I 4 k)
theorem t_eq (F : Nat → Int → Nat) (G : Nat → Int → Int) (H : Nat → Int → Nat) (I : Nat → Int → Int) (k : Int) : tS F G H I k = tI F G H I k := by
  unfold tS tI sa
  cases sm F H 0 k <;> cases sm F H 1 k <;> cases sm F H 2 k <;> cases sm F H 3 k <;> cases decide (G 4 k = I 4 k) <;> rfl
noncomputable def qM (F : Nat → Int → Nat) (G : Nat → Int → Int) (H : Nat → Int → Nat) (I : Nat → Int → Int) (k : Int) : Bool := !tI F G H I k
noncomputable def b4 (n m k : Int) : List Bool := [bnd n k, bnd n k, bnd m k, bnd m k]
noncomputable def hd (n m k : Int) : List Bool := [decide (k < n)] ++ b4 n m k
noncomputable def mdI (_ _ : Nat → Int → Nat) (_ _ _ : Int) : List Bool := []
noncomputable def mdS (F H : Nat → Int → Nat) (n m k : Int) : List Bool := gdB (!sm F H 0 k) (b4 n m k) ++ gdB (!sm F H 0 k) (gdB (!sm F H 1 k) (b4 n m k)) ++ gdB (!sm F H 0 k) (gdB (!sm F H 1 k) (gdB (!sm F H 2 k) (b4 n m k))) ++ gdB (!sm F H 0 k) (gdB (!sm F H 1 k) (gdB (!sm F H 2 k) (gdB (!sm F H 3 k) (b4 n m k))))
noncomputable def fl2 (F : Nat → Int → Nat) (G : Nat → Int → Int) (H : Nat → Int → Nat) (I : Nat → Int → Int) : List Bool := [flatR (Row H I), flatR (Row F G)]
theorem b4_ok {n k : Int} (h0 : 0 ≤ k) (h1 : k < n) : AllT (b4 n n k) := by
  have b := bnd_ok h0 h1
  exact AllT.cons b (AllT.cons b (AllT.cons b (AllT.one b)))
theorem hd_ok {n k : Int} (h0 : 0 ≤ k) (h1 : k < n) : AllT (hd n n k) := AllT.app (AllT.one (by simpa using h1)) (b4_ok h0 h1)
theorem mdS_ok (F H : Nat → Int → Nat) {n k : Int} (h0 : 0 ≤ k) (h1 : k < n) : AllT (mdS F H n n k) := by
  have b := b4_ok h0 h1
  exact AllT.app (AllT.app (AllT.app (gdB_ok fun _ => b) (gdB_ok fun _ => gdB_ok fun _ => b)) (gdB_ok fun _ => gdB_ok fun _ => gdB_ok fun _ => b)) (gdB_ok fun _ => gdB_ok fun _ => gdB_ok fun _ => gdB_ok fun _ => b)
def PreM (n m k M N : Int) (row row' : Int → List SC) : Prop := m = n ∧ k = 0 ∧ M = n ∧ N = n ∧ 0 ≤ n ∧ n ≤ 1048576 ∧ Shape ts row ∧ Shape ts row'
/-- Whether two chimneys are the same. -/
noncomputable def sR (n m : Int) (row row' : Int → List SC) : Bool := bif !decide (n = m) then false else bif !eqFrom (qM (datF row) (datG row) (datF row') (datG row')) 0 n.toNat then false else true
noncomputable def smH : CS := fun base args rd => match args with
  | [.c (.sl i o es (.s n) _), .c (.sl i' o' es' (.s m) _)] => match rd with
    | [(j', ⟨_, _, .rows st' M row'⟩), (j, ⟨_, _, .rows st N row⟩)] => match Nat.beq base 3 && (Nat.beq i 2 && (Nat.beq o 0 && (Nat.beq es 5 && (Nat.beq j 2 && (Nat.beq st 5 && (Nat.beq i' 1 && (Nat.beq o' 0 && (Nat.beq es' 5 && (Nat.beq j' 1 && Nat.beq st' 5))))))))) with
      | true => some ⟨.c (.bool (.s (sR n m row row'))), [], 60, [okE' n N row m M row']⟩
      | false => none
    | _ => none
  | _ => none
/-! ### impl.SameChimney -/
noncomputable def skI : Sk := ⟨[(0, .c (.sl 2 0 5 false)), (1, .c (.sl 1 0 5 false)), (13, .c (.sl 2 0 5 false)), (14, .c (.int .i64)), (15, .c (.int .i64))], sg, 3⟩
noncomputable def NI : Nat := Try.f31.ntmps
noncomputable def goI (O : FOps) (h : List (Nat × Bool)) (s : Sk) (F : Nat → Int → Nat) (G : Nat → Int → Int) (H : Nat → Int → Nat) (I : Nat → Int → Int) (n m k : Int) : Option (Option XK × List LD × List Bool) :=
  goL (cxM O) NI ⟨hint h, fun _ => none⟩ (bodyOf Try.f31 4) 3 60 skI [] s [.i n, .i m, .i n, .i n, .i k, .i m, .r (Row H I), .i n, .r (Row F G)]
noncomputable def hIa : List (Nat × Bool) := [(16, true), (50, false)]
noncomputable def hIb : List (Nat × Bool) := [(16, true), (50, true)]
noncomputable def hIe : List (Nat × Bool) := [(16, false)]
set_option maxRecDepth 100000 in
theorem raI (O : FOps) (F : Nat → Int → Nat) (G : Nat → Int → Int) (H : Nat → Int → Nat) (I : Nat → Int → Int) (n m k : Int) : goI O hIa skI F G H I n m k = some (none, [.i n, .i m, .i n, .i n, .i (IntKind.i64.wrap (k + 1)), .i m, .r (Row H I), .i n, .r (Row F G)], hd n m k ++ mdI F H n m k ++ ([!tI F G H I k] ++ fl2 F G H I)) := by kernel_rfl
set_option maxRecDepth 100000 in
theorem rbI (O : FOps) (F : Nat → Int → Nat) (G : Nat → Int → Int) (H : Nat → Int → Nat) (I : Nat → Int → Int) (n m k : Int) : goI O hIb skR F G H I n m k = some (some .ret, [], hd n m k ++ mdI F H n m k ++ [tI F G H I k]) := by kernel_rfl
set_option maxRecDepth 100000 in
theorem reI (O : FOps) (F : Nat → Int → Nat) (G : Nat → Int → Int) (H : Nat → Int → Nat) (I : Nat → Int → Int) (n m k : Int) : goI O hIe skE F G H I n m k = some (some (.exit 0), [], [!decide (k < n)]) := by kernel_rfl
theorem loI (F : Nat → Int → Nat) (G : Nat → Int → Int) (H : Nat → Int → Nat) (I : Nat → Int → Int) (n : Int) (hn : n ≤ 1048576) : ∀ (m : Nat) (k : Int), 0 ≤ k → k + m = n →
    (eqFrom (qM F G H I) k m = true → Loops (cxM fops) NI (fun _ => none) (bodyOf Try.f31 4) 3 60 skI [.i n, .i n, .i n, .i n, .i k, .i n, .r (Row H I), .i n, .r (Row F G)] (.exit 0) skE []) ∧
    (eqFrom (qM F G H I) k m = false → Loops (cxM fops) NI (fun _ => none) (bodyOf Try.f31 4) 3 60 skI [.i n, .i n, .i n, .i n, .i k, .i n, .r (Row H I), .i n, .r (Row F G)] .ret skR []) := by
  have fl : AllT (fl2 F G H I) := AllT.cons (rowK_flat _ _ _) (AllT.cons (rowK_flat _ _ _) AllT.nil)
  intro m
  induction m with
  | zero =>
    intro k hk hkn
    have e : k = n := by omega
    subst e
    refine ⟨fun _ => .done (ts := hint hIe) (ρ := []) (reI fops F G H I k k k) (AllT.one (by simp)), fun h => by cases h⟩
  | succ m ih =>
    intro k hk hkn
    have hlt : k < n := by omega
    obtain ⟨i1, i2⟩ := ih (k + 1) (by omega) (by omega)
    have hE : eqFrom (qM F G H I) k (m + 1) = bif qM F G H I k then eqFrom (qM F G H I) (k + 1) m else false := rfl
    have hh := hd_ok hk hlt
    have hm : AllT (mdI F H n n k) := AllT.nil
    have ht : tI F G H I k = !qM F G H I k := by unfold qM; simp
    rw [hE]
    cases hq : qM F G H I k with
    | true =>
      have h1 := raI fops F G H I n n k
      rw [wrap_succ hk (by omega)] at h1
      have ho : AllT (hd n n k ++ mdI F H n n k ++ ([!tI F G H I k] ++ fl2 F G H I)) := AllT.app (AllT.app hh hm) (AllT.app (AllT.one (by rw [ht, hq]; rfl)) fl)
      exact ⟨fun h => .step (ts := hint hIa) (ρ := []) h1 ho (i1 h), fun h => .step (ts := hint hIa) (ρ := []) h1 ho (i2 h)⟩
    | false =>
      refine ⟨fun h => (by cases h), fun _ => .done (ts := hint hIb) (ρ := []) (rbI fops F G H I n n k) (AllT.app (AllT.app hh hm) (AllT.one (by rw [ht, hq]; rfl)))⟩
noncomputable def FI : List LD → Option (XO × List Bool)
  | [.i n, .i m, .i n1, .i n2, .i k, .i M, .r row', .i N, .r row] => some ([(.s (!eqFrom (qM (datF row) (datG row) (datF row') (datG row')) 0 n.toNat), .ret, skR, []), (.t, .exit 0, skE, [])], [pB (n1 = n ∧ n2 = n ∧ PreM n m k M N row row')])
  | _ => none
noncomputable def LIm (O : FOps) : List Ly → Top → Option Outs := orIter (cxM O) NI (bodyOf Try.f31 4) (loopL NI 3 60 skI [] FI)
set_option maxRecDepth 100000 in
theorem okI : CodeOK Try.prog NI (.loop (bodyOf Try.f31 4)) (LIm fops) := by
  refine orIter_ok (l := LN) okLN mixed 8 (loopL_ok (cx := cxM fops) (lp := fun _ => none) (fun ts => body_ok (l := LN) okLN mixed 8 _ ts) fun p r hr hob => ?_)
  unfold FI at hr
  split at hr <;> cases hr
  rename_i n m n1 n2 k M row' N row
  obtain ⟨g1, g2, e1, e2, e3, e4, h0, hm, hs, hs'⟩ := pB_iff.1 hob.head
  obtain ⟨h1, h2⟩ := loI (datF row) (datG row) (datF row') (datG row') n hm n.toNat 0 (Int.le_refl _) (by omega)
  have hs1 : Row (datF row) (datG row) = row := hs.symm
  have hs2 : Row (datF row') (datG row') = row' := hs'.symm
  rw [hs1, hs2] at h1 h2
  rw [g1, g2, e1, e2, e3, e4]
  cases hq : eqFrom (qM (datF row) (datG row) (datF row') (datG row')) 0 n.toNat with
  | true => exact ⟨.exit 0, skE, [], by simp [pickX, SB.val], h1 hq⟩
  | false => exact ⟨.ret, skR, [], by simp [pickX, SB.val], h2 hq⟩
set_option maxRecDepth 100000 in
theorem cI0 : CallOK Try.prog 31 (inl (cxM fops) Try.f31 ⟨fun _ => none, lpOf [(4, LIm fops)]⟩) := by
  have hb : Try.f31.body.isSome = true := by kernel_rfl
  obtain ⟨c, hc⟩ := Option.isSome_iff_exists.1 hb
  have h1 : (match Try.f31.body with | some c => onceB (loopsIn c) && (match loopAt 4 (loopsIn c) with | some _ => true | none => false) | none => false) = true := by kernel_rfl
  rw [hc] at h1
  simp only [Bool.and_eq_true] at h1
  exact inlL_of (l := LN) (ls := [(4, LIm fops)]) okLN mixed 8 Try.func31 (by kernel_rfl) (fun _ => none) hc h1.1 ⟨⟨_, bodyOf_at hc h1.2, okI⟩, trivial⟩
set_option maxRecDepth 100000 in
theorem I_run (O : FOps) (f w o f' w' o' : Bool) (n N m M : Int) (row row' : Int → List SC) : roS (inl (cxM O) Try.f31 ⟨fun _ => none, lpOf [(4, LIm O)]⟩) 3 [.c (.sl 2 0 5 (.s n) f), .c (.sl 1 0 5 (.s m) f')] [(1, ⟨w', o', .rows 5 M row'⟩), (2, ⟨w, o, .rows 5 N row⟩)] =
    some ⟨.c (.bool (.s (sR n m row row'))), [], 60, gdB (!decide (n = m)) [flatR row', flatR row, pB (n = n ∧ n = n ∧ PreM n m 0 M N row row')]⟩ := by kernel_rfl
noncomputable def smI (O : FOps) : CS := orS (canS smH) (inl (cxM O) Try.f31 noH)
set_option maxRecDepth 100000 in
theorem cSmI : CallOK Try.prog 31 (smI fops) :=
  (CallOK.hand (H := smH) cI0.ro fun b args rd e h hob => by
    unfold smH at h
    split at h <;> try (cases h; done)
    rename_i i o es n f i' o' es' m f'
    split at h <;> try (cases h; done)
    rename_i j' w' p' st' M row' j w p st N row
    split at h <;> cases h
    rename_i hc
    simp only [Bool.and_eq_true, beqN] at hc
    obtain ⟨rfl, rfl, rfl, rfl, rfl, rfl, rfl, rfl, rfl, rfl, rfl⟩ := hc
    refine ⟨_, I_run fops f w p f' w' p' n N m M row row', gdB_ok fun hg => ?_⟩
    have hnm : decide (n = m) = true := by simpa using hg
    have ho := hob.head
    unfold okE' at ho
    rw [hnm] at ho
    obtain ⟨e1, e2, h0, hm, hs, hs'⟩ := pB_iff.1 (show pB _ = true from ho)
    exact AllT.cons (shape_flat hs') (AllT.cons (shape_flat hs) (AllT.one (pB_iff.2 ⟨rfl, rfl, (of_decide_eq_true hnm).symm, rfl, e2, e1, h0, hm, hs, hs'⟩)))).can.or
    (inlN_of (l := LN) okLN mixed 8 Try.func31 (by kernel_rfl) (fun _ => none))
/-! ### spec.l03Same -/
noncomputable def skS : Sk := ⟨[(0, .c (.sl 2 0 5 false)), (1, .c (.sl 1 0 5 false)), (5, .c (.int .i64))], sg, 3⟩
noncomputable def NS : Nat := Try.f65.ntmps
noncomputable def goS (O : FOps) (h : List (Nat × Bool)) (s : Sk) (F : Nat → Int → Nat) (G : Nat → Int → Int) (H : Nat → Int → Nat) (I : Nat → Int → Int) (n m k : Int) : Option (Option XK × List LD × List Bool) :=
  goL (cxM O) NS ⟨hint h, fun _ => none⟩ (bodyOf Try.f65 4) 3 60 skS [] s [.i n, .i m, .i k, .i m, .r (Row H I), .i n, .r (Row F G)]
noncomputable def hSa : List (Nat × Bool) := [(14, true), (83, false)]
noncomputable def hSb : List (Nat × Bool) := [(14, true), (83, true)]
noncomputable def hSe : List (Nat × Bool) := [(14, false)]
set_option maxRecDepth 100000 in
theorem raS (O : FOps) (F : Nat → Int → Nat) (G : Nat → Int → Int) (H : Nat → Int → Nat) (I : Nat → Int → Int) (n m k : Int) : goS O hSa skS F G H I n m k = some (none, [.i n, .i m, .i (IntKind.i64.wrap (k + 1)), .i m, .r (Row H I), .i n, .r (Row F G)], hd n m k ++ mdS F H n m k ++ ([!tS F G H I k] ++ fl2 F G H I)) := by kernel_rfl
set_option maxRecDepth 100000 in
theorem rbS (O : FOps) (F : Nat → Int → Nat) (G : Nat → Int → Int) (H : Nat → Int → Nat) (I : Nat → Int → Int) (n m k : Int) : goS O hSb skR F G H I n m k = some (some .ret, [], hd n m k ++ mdS F H n m k ++ [tS F G H I k]) := by kernel_rfl
set_option maxRecDepth 100000 in
theorem reS (O : FOps) (F : Nat → Int → Nat) (G : Nat → Int → Int) (H : Nat → Int → Nat) (I : Nat → Int → Int) (n m k : Int) : goS O hSe skE F G H I n m k = some (some (.exit 0), [], [!decide (k < n)]) := by kernel_rfl
theorem loS (F : Nat → Int → Nat) (G : Nat → Int → Int) (H : Nat → Int → Nat) (I : Nat → Int → Int) (n : Int) (hn : n ≤ 1048576) : ∀ (m : Nat) (k : Int), 0 ≤ k → k + m = n →
    (eqFrom (qM F G H I) k m = true → Loops (cxM fops) NS (fun _ => none) (bodyOf Try.f65 4) 3 60 skS [.i n, .i n, .i k, .i n, .r (Row H I), .i n, .r (Row F G)] (.exit 0) skE []) ∧
    (eqFrom (qM F G H I) k m = false → Loops (cxM fops) NS (fun _ => none) (bodyOf Try.f65 4) 3 60 skS [.i n, .i n, .i k, .i n, .r (Row H I), .i n, .r (Row F G)] .ret skR []) := by
  have fl : AllT (fl2 F G H I) := AllT.cons (rowK_flat _ _ _) (AllT.cons (rowK_flat _ _ _) AllT.nil)
  intro m
  induction m with
  | zero =>
    intro k hk hkn
    have e : k = n := by omega
    subst e
    refine ⟨fun _ => .done (ts := hint hSe) (ρ := []) (reS fops F G H I k k k) (AllT.one (by simp)), fun h => by cases h⟩
  | succ m ih =>
    intro k hk hkn
    have hlt : k < n := by omega
    obtain ⟨i1, i2⟩ := ih (k + 1) (by omega) (by omega)
    have hE : eqFrom (qM F G H I) k (m + 1) = bif qM F G H I k then eqFrom (qM F G H I) (k + 1) m else false := rfl
    have hh := hd_ok hk hlt
    have hm : AllT (mdS F H n n k) := mdS_ok F H hk hlt
    have ht : tS F G H I k = !qM F G H I k := by unfold qM; rw [t_eq]; simp
    rw [hE]
    cases hq : qM F G H I k with
    | true =>
      have h1 := raS fops F G H I n n k
      rw [wrap_succ hk (by omega)] at h1
      have ho : AllT (hd n n k ++ mdS F H n n k ++ ([!tS F G H I k] ++ fl2 F G H I)) := AllT.app (AllT.app hh hm) (AllT.app (AllT.one (by rw [ht, hq]; rfl)) fl)
      exact ⟨fun h => .step (ts := hint hSa) (ρ := []) h1 ho (i1 h), fun h => .step (ts := hint hSa) (ρ := []) h1 ho (i2 h)⟩
    | false =>
      refine ⟨fun h => (by cases h), fun _ => .done (ts := hint hSb) (ρ := []) (rbS fops F G H I n n k) (AllT.app (AllT.app hh hm) (AllT.one (by rw [ht, hq]; rfl)))⟩
noncomputable def FS : List LD → Option (XO × List Bool)
  | [.i n, .i m, .i k, .i M, .r row', .i N, .r row] => some ([(.s (!eqFrom (qM (datF row) (datG row) (datF row') (datG row')) 0 n.toNat), .ret, skR, []), (.t, .exit 0, skE, [])], [pB (PreM n m k M N row row')])
  | _ => none
noncomputable def LSm (O : FOps) : List Ly → Top → Option Outs := orIter (cxM O) NS (bodyOf Try.f65 4) (loopL NS 3 60 skS [] FS)
set_option maxRecDepth 100000 in
theorem okS : CodeOK Try.prog NS (.loop (bodyOf Try.f65 4)) (LSm fops) := by
  refine orIter_ok (l := LN) okLN mixed 8 (loopL_ok (cx := cxM fops) (lp := fun _ => none) (fun ts => body_ok (l := LN) okLN mixed 8 _ ts) fun p r hr hob => ?_)
  unfold FS at hr
  split at hr <;> cases hr
  rename_i n m k M row' N row
  obtain ⟨e1, e2, e3, e4, h0, hm, hs, hs'⟩ := pB_iff.1 hob.head
  obtain ⟨h1, h2⟩ := loS (datF row) (datG row) (datF row') (datG row') n hm n.toNat 0 (Int.le_refl _) (by omega)
  have hs1 : Row (datF row) (datG row) = row := hs.symm
  have hs2 : Row (datF row') (datG row') = row' := hs'.symm
  rw [hs1, hs2] at h1 h2
  rw [e1, e2, e3, e4]
  cases hq : eqFrom (qM (datF row) (datG row) (datF row') (datG row')) 0 n.toNat with
  | true => exact ⟨.exit 0, skE, [], by simp [pickX, SB.val], h1 hq⟩
  | false => exact ⟨.ret, skR, [], by simp [pickX, SB.val], h2 hq⟩
set_option maxRecDepth 100000 in
theorem cS0 : CallOK Try.prog 65 (inl (cxM fops) Try.f65 ⟨fun _ => none, lpOf [(4, LSm fops)]⟩) := by
  have hb : Try.f65.body.isSome = true := by kernel_rfl
  obtain ⟨c, hc⟩ := Option.isSome_iff_exists.1 hb
  have h1 : (match Try.f65.body with | some c => onceB (loopsIn c) && (match loopAt 4 (loopsIn c) with | some _ => true | none => false) | none => false) = true := by kernel_rfl
  rw [hc] at h1
  simp only [Bool.and_eq_true] at h1
  exact inlL_of (l := LN) (ls := [(4, LSm fops)]) okLN mixed 8 Try.func65 (by kernel_rfl) (fun _ => none) hc h1.1 ⟨⟨_, bodyOf_at hc h1.2, okS⟩, trivial⟩
set_option maxRecDepth 100000 in
theorem S_run (O : FOps) (f w o f' w' o' : Bool) (n N m M : Int) (row row' : Int → List SC) : roS (inl (cxM O) Try.f65 ⟨fun _ => none, lpOf [(4, LSm O)]⟩) 3 [.c (.sl 2 0 5 (.s n) f), .c (.sl 1 0 5 (.s m) f')] [(1, ⟨w', o', .rows 5 M row'⟩), (2, ⟨w, o, .rows 5 N row⟩)] =
    some ⟨.c (.bool (.s (sR n m row row'))), [], 60, gdB (!decide (n = m)) [flatR row', flatR row, pB (PreM n m 0 M N row row')]⟩ := by kernel_rfl
noncomputable def smS (O : FOps) : CS := orS (canS smH) (inl (cxM O) Try.f65 noH)
set_option maxRecDepth 100000 in
theorem cSmS : CallOK Try.prog 65 (smS fops) :=
  (CallOK.hand (H := smH) cS0.ro fun b args rd e h hob => by
    unfold smH at h
    split at h <;> try (cases h; done)
    rename_i i o es n f i' o' es' m f'
    split at h <;> try (cases h; done)
    rename_i j' w' p' st' M row' j w p st N row
    split at h <;> cases h
    rename_i hc
    simp only [Bool.and_eq_true, beqN] at hc
    obtain ⟨rfl, rfl, rfl, rfl, rfl, rfl, rfl, rfl, rfl, rfl, rfl⟩ := hc
    refine ⟨_, S_run fops f w p f' w' p' n N m M row row', gdB_ok fun hg => ?_⟩
    have hnm : decide (n = m) = true := by simpa using hg
    have ho := hob.head
    unfold okE' at ho
    rw [hnm] at ho
    obtain ⟨e1, e2, h0, hm, hs, hs'⟩ := pB_iff.1 (show pB _ = true from ho)
    exact AllT.cons (shape_flat hs') (AllT.cons (shape_flat hs) (AllT.one (pB_iff.2 ⟨(of_decide_eq_true hnm).symm, rfl, e2, e1, h0, hm, hs, hs'⟩)))).can.or
    (inlN_of (l := LN) okLN mixed 8 Try.func65 (by kernel_rfl) (fun _ => none))
end
end Go.Proofs.Ytohmpnnncpjjlaa.Chs
