/- Parts of a proof, merged: SlFloat32, SlWall, SlPane, Gl, Fla, Flb, Flv, Flc, Fll, Fld, Lx, Lt1, Lt2, Lxw, Lt3, Lt4, Ar, As. Nothing is assumed. -/
import Derived.Test.YtaoeigofmfpamaaMlC
/- Slices of Float32: how they are made, compared and marked. Nothing is assumed. -/
section
namespace Go.Proofs.Ytaoeigofmfpamaa.SlFloat32
open Go
noncomputable def ts : List KK := [.flt .f32]
noncomputable abbrev Row (F : Nat → Int → Nat) (G : Nat → Int → Int) : Int → List SC := rowK ts F G
theorem shape_row (F : Nat → Int → Nat) (G : Nat → Int → Int) : Shape ts (Row F G) := by
  unfold Shape
  funext j
  rfl
/-! ### made anew -/
noncomputable def skT : Sk := ⟨[(0, .c (.sl 1 0 1 false)), (3, .c (.sl 2 0 1 true)), (4, .c (.int .i64))], [(1, ⟨false, false, .rows 1⟩), (2, ⟨true, true, .rows 1⟩)], 3⟩
noncomputable def skTE : Sk := ⟨[(3, .c (.sl 2 0 1 true))], [(1, ⟨false, false, .rows 1⟩), (2, ⟨true, true, .rows 1⟩)], 3⟩
noncomputable def cxT (O : FOps) : Cx := ⟨Try.prog, O, orcN Try.prog O [] 8⟩
noncomputable def toN : Nat := Try.f22.ntmps
noncomputable def onT (b : Bool) (t : Nat) : Option Bool := bif Nat.beq t 11 then some b else none
noncomputable def goT (O : FOps) (b : Bool) (sk : Sk) (F : Nat → Int → Nat) (G : Nat → Int → Int) (X : Nat → Int → Nat) (Y : Nat → Int → Int) (n k : Int) : Option (Option XK × List LD × List Bool) :=
  goL (cxT O) toN ⟨onT b, fun _ => none⟩ (bodyOf Try.f22 3) 3 60 skT [] sk [.i n, .i n, .i k, .i n, .r (Row F G), .i n, .r (Row X Y)]
set_option maxRecDepth 100000 in
theorem to_step (O : FOps) (F : Nat → Int → Nat) (G : Nat → Int → Int) (X : Nat → Int → Nat) (Y : Nat → Int → Int) (n k : Int) : goT O true skT F G X Y n k =
    some (none, [.i n, .i n, .i (IntKind.i64.wrap (k + 1)), .i n, .r (Row F G), .i n, .r (Row (fun c j => bif decide (j = k) then F c k else X c j) (fun c j => bif decide (j = k) then G c k else Y c j))],
      [decide (k < n), decide (0 ≤ k ∧ k < n), decide (0 ≤ k ∧ k < n), decide (0 ≤ k ∧ k < n), decide (0 ≤ k ∧ k < n), flatR (Row F G), flatR (Row (fun c j => bif decide (j = k) then F c k else X c j) (fun c j => bif decide (j = k) then G c k else Y c j))]) := by kernel_rfl
set_option maxRecDepth 100000 in
theorem to_end (O : FOps) (F : Nat → Int → Nat) (G : Nat → Int → Int) (X : Nat → Int → Nat) (Y : Nat → Int → Int) (n k : Int) : goT O false skTE F G X Y n k =
    some (some (.exit 0), [.i n, .i n, .r (Row F G), .i n, .r (Row X Y)], [!decide (k < n), flatR (Row F G), flatR (Row X Y)]) := by kernel_rfl
noncomputable def PreT (n m k n1 : Int) (row : Int → List SC) (n2 : Int) (out : Int → List SC) : Prop :=
  m = n ∧ k = 0 ∧ n1 = n ∧ n2 = n ∧ 0 ≤ n ∧ n ≤ 1048576 ∧ Shape ts row ∧ out = Row (fun _ _ => 0) (fun _ _ => 0)
noncomputable def FT : List LD → Option (XO × List Bool)
  | [.i n, .i m, .i k, .i n1, .r row, .i n2, .r out] => some ([(.t, .exit 0, skTE, [.i n, .i n, .r row, .i n, .r (Row (clF n (datF row)) (clG n (datG row)))])], [pB (PreT n m k n1 row n2 out)])
  | _ => none
theorem to_loops (F : Nat → Int → Nat) (G : Nat → Int → Int) (n : Int) (hn : n ≤ 1048576) : ∀ (m : Nat) (k : Int), 0 ≤ k → k + m = n →
    Loops (cxT fops) toN (fun _ => none) (bodyOf Try.f22 3) 3 60 skT [.i n, .i n, .i k, .i n, .r (Row F G), .i n, .r (Row (clF k F) (clG k G))] (.exit 0) skTE [.i n, .i n, .r (Row F G), .i n, .r (Row (clF n F) (clG n G))] := by
  intro m
  induction m with
  | zero =>
    intro k hk hkn
    have e : k = n := by omega
    subst e
    refine .done (ts := onT false) (ρ := []) (to_end fops F G (clF k F) (clG k G) k k) ?_
    refine AllT.cons (by simp) (AllT.cons (rowK_flat _ _ _) (AllT.cons (rowK_flat _ _ _) AllT.nil))
  | succ m ih =>
    intro k hk hkn
    have h1 := to_step fops F G (clF k F) (clG k G) n k
    rw [clF_step hk, clG_step hk, wrap_succ hk (by omega)] at h1
    have hd : decide (k < n) = true := by simp; omega
    have hd2 : decide (0 ≤ k ∧ k < n) = true := by simp; omega
    exact .step (ts := onT true) (ρ := []) h1 (AllT.cons hd (AllT.cons hd2 (AllT.cons hd2 (AllT.cons hd2 (AllT.cons hd2 (AllT.cons (rowK_flat _ _ _) (AllT.cons (rowK_flat _ _ _) AllT.nil))))))) (ih (k + 1) (by omega) (by omega))
noncomputable def LT (O : FOps) : List Ly → Top → Option Outs := orIter (cxT O) toN (bodyOf Try.f22 3) (loopL toN 3 60 skT [] FT)
set_option maxRecDepth 100000 in
theorem okT : CodeOK Try.prog toN (.loop (bodyOf Try.f22 3)) (LT fops) := by
  refine orIter_ok (l := []) trivial mixed 8 (loopL_ok (cx := cxT fops) (lp := fun _ => none) (fun ts => body_ok (l := []) trivial mixed 8 _ ts) fun p r hr hob => ?_)
  unfold FT at hr
  split at hr <;> cases hr
  rename_i n m k n1 row n2 out
  obtain ⟨e1, e2, e3, e4, h0, hm, hs, e5⟩ := pB_iff.1 hob.head
  refine ⟨_, _, _, rfl, ?_⟩
  have h1 := to_loops (datF row) (datG row) n hm n.toNat 0 (Int.le_refl _) (by omega)
  rw [clF_zero, clG_zero] at h1
  rw [e1, e2, e3, e4, e5, hs]
  exact h1
/-- The contract of laws.toFloat32S. -/
noncomputable def toS (O : FOps) : CS := canS (inl (cxT O) Try.f22 ⟨fun _ => none, lpOf [(3, LT O)]⟩)
set_option maxRecDepth 100000 in
theorem cTo : CallOK Try.prog 22 (toS fops) := by
  have hb : Try.f22.body.isSome = true := by kernel_rfl
  obtain ⟨c, hc⟩ := Option.isSome_iff_exists.1 hb
  have h1 : (match Try.f22.body with | some c => onceB (loopsIn c) && (match loopAt 3 (loopsIn c) with | some _ => true | none => false) | none => false) = true := by kernel_rfl
  rw [hc] at h1
  simp only [Bool.and_eq_true] at h1
  exact (inlL_of (l := []) (ls := [(3, LT fops)]) trivial mixed 8 Try.func22 (by kernel_rfl) (fun _ => none) hc h1.1 ⟨⟨_, bodyOf_at hc h1.2, okT⟩, trivial⟩).can
/-! ### compared -/
noncomputable def q (O : FOps) (F : Nat → Int → Nat) (G : Nat → Int → Int) (H : Nat → Int → Nat) (I : Nat → Int → Int) (k : Int) : Bool := sf O (O.conv .f32 .f64 (F 0 k)) (O.conv .f32 .f64 (H 0 k))
noncomputable def skQ : Sk := ⟨[(0, .c (.sl 2 0 1 false)), (1, .c (.sl 1 0 1 false)), (5, .c (.int .i64))], [(1, ⟨false, false, .rows 1⟩), (2, ⟨false, false, .rows 1⟩)], 3⟩
noncomputable def skQR : Sk := ⟨[(4, .c (.boolc false))], [(1, ⟨false, false, .rows 1⟩), (2, ⟨false, false, .rows 1⟩)], 3⟩
noncomputable def skQE : Sk := ⟨[], [(1, ⟨false, false, .rows 1⟩), (2, ⟨false, false, .rows 1⟩)], 3⟩
noncomputable def LQ (O : FOps) : List (Nat × CS) := [(12, gS (sfG O))]
set_option maxRecDepth 100000 in
theorem okLQ : AllOK Try.prog (LQ fops) := ⟨cSf, trivial⟩
noncomputable def cxQ (O : FOps) : Cx := ⟨Try.prog, O, orcN Try.prog O (LQ O) 8⟩
noncomputable def eqN : Nat := Try.f24.ntmps
noncomputable def onQ (a b : Bool) (t : Nat) : Option Bool := bif Nat.beq t 14 then some a else bif Nat.beq t 28 then some b else none
noncomputable def goQ (O : FOps) (a b : Bool) (sk : Sk) (F : Nat → Int → Nat) (G : Nat → Int → Int) (H : Nat → Int → Nat) (I : Nat → Int → Int) (n m k : Int) : Option (Option XK × List LD × List Bool) :=
  goL (cxQ O) eqN ⟨onQ a b, fun _ => none⟩ (bodyOf Try.f24 4) 3 60 skQ [] sk [.i n, .i m, .i k, .i m, .r (Row H I), .i n, .r (Row F G)]
noncomputable def idx (n m k : Int) : List Bool := [decide (k < n), decide (0 ≤ k ∧ k < n), decide (0 ≤ k ∧ k < n), decide (0 ≤ k ∧ k < m), decide (0 ≤ k ∧ k < m)]
set_option maxRecDepth 100000 in
theorem eq_step (O : FOps) (F : Nat → Int → Nat) (G : Nat → Int → Int) (H : Nat → Int → Nat) (I : Nat → Int → Int) (n m k : Int) : goQ O true false skQ F G H I n m k =
    some (none, [.i n, .i m, .i (IntKind.i64.wrap (k + 1)), .i m, .r (Row H I), .i n, .r (Row F G)], idx n m k ++ [!!(q O F G H I k), flatR (Row H I), flatR (Row F G)]) := by kernel_rfl
set_option maxRecDepth 100000 in
theorem eq_ret (O : FOps) (F : Nat → Int → Nat) (G : Nat → Int → Int) (H : Nat → Int → Nat) (I : Nat → Int → Int) (n m k : Int) : goQ O true true skQR F G H I n m k =
    some (some .ret, [.i m, .r (Row H I), .i n, .r (Row F G)], idx n m k ++ [!(q O F G H I k), flatR (Row H I), flatR (Row F G)]) := by kernel_rfl
set_option maxRecDepth 100000 in
theorem eq_end (O : FOps) (F : Nat → Int → Nat) (G : Nat → Int → Int) (H : Nat → Int → Nat) (I : Nat → Int → Int) (n m k : Int) : goQ O false true skQE F G H I n m k =
    some (some (.exit 0), [.i m, .r (Row H I), .i n, .r (Row F G)], [!decide (k < n), flatR (Row H I), flatR (Row F G)]) := by kernel_rfl
theorem idx_ok {n k : Int} (h0 : 0 ≤ k) (h1 : k < n) : AllT (idx n n k) := by
  have h2 : decide (0 ≤ k ∧ k < n) = true := by simp; omega
  exact AllT.cons (by simpa using h1) (AllT.cons h2 (AllT.cons h2 (AllT.cons h2 (AllT.cons h2 AllT.nil))))
theorem eq_loops (F : Nat → Int → Nat) (G : Nat → Int → Int) (H : Nat → Int → Nat) (I : Nat → Int → Int) (n : Int) (hn : n ≤ 1048576) : ∀ (m : Nat) (k : Int), 0 ≤ k → k + m = n →
    (eqFrom (q fops F G H I) k m = true → Loops (cxQ fops) eqN (fun _ => none) (bodyOf Try.f24 4) 3 60 skQ [.i n, .i n, .i k, .i n, .r (Row H I), .i n, .r (Row F G)] (.exit 0) skQE [.i n, .r (Row H I), .i n, .r (Row F G)]) ∧
    (eqFrom (q fops F G H I) k m = false → Loops (cxQ fops) eqN (fun _ => none) (bodyOf Try.f24 4) 3 60 skQ [.i n, .i n, .i k, .i n, .r (Row H I), .i n, .r (Row F G)] .ret skQR [.i n, .r (Row H I), .i n, .r (Row F G)]) := by
  have fl : AllT [flatR (Row H I), flatR (Row F G)] := AllT.cons (rowK_flat _ _ _) (AllT.cons (rowK_flat _ _ _) AllT.nil)
  intro m
  induction m with
  | zero =>
    intro k hk hkn
    have e : k = n := by omega
    subst e
    refine ⟨fun _ => .done (ts := onQ false true) (ρ := []) (eq_end fops F G H I k k k) (AllT.cons (by simp) fl), fun h => by cases h⟩
  | succ m ih =>
    intro k hk hkn
    have hlt : k < n := by omega
    obtain ⟨i1, i2⟩ := ih (k + 1) (by omega) (by omega)
    have hE : eqFrom (q fops F G H I) k (m + 1) = bif q fops F G H I k then eqFrom (q fops F G H I) (k + 1) m else false := rfl
    rw [hE]
    cases hq : q fops F G H I k with
    | true =>
      have h1 := eq_step fops F G H I n n k
      rw [wrap_succ hk (by omega)] at h1
      have ho : AllT (idx n n k ++ [!!(q fops F G H I k), flatR (Row H I), flatR (Row F G)]) := AllT.app (idx_ok hk hlt) (AllT.cons (by rw [hq]; rfl) fl)
      exact ⟨fun h => .step (ts := onQ true false) (ρ := []) h1 ho (i1 h), fun h => .step (ts := onQ true false) (ρ := []) h1 ho (i2 h)⟩
    | false =>
      refine ⟨fun h => (by cases h), fun _ => .done (ts := onQ true true) (ρ := []) (eq_ret fops F G H I n n k) (AllT.app (idx_ok hk hlt) (AllT.cons (by rw [hq]; rfl) fl))⟩
def PreQ (n m k n1 : Int) (row : Int → List SC) (m1 : Int) (row' : Int → List SC) : Prop :=
  m = n ∧ k = 0 ∧ n1 = n ∧ m1 = n ∧ 0 ≤ n ∧ n ≤ 1048576 ∧ Shape ts row ∧ Shape ts row'
noncomputable def FQ (O : FOps) : List LD → Option (XO × List Bool)
  | [.i n, .i m, .i k, .i m1, .r row', .i n1, .r row] => some ([(.s (!eqFrom (q O (datF row) (datG row) (datF row') (datG row')) 0 n.toNat), .ret, skQR, [.i m, .r row', .i n, .r row]), (.t, .exit 0, skQE, [.i m, .r row', .i n, .r row])], [pB (PreQ n m k n1 row m1 row')])
  | _ => none
noncomputable def LE (O : FOps) : List Ly → Top → Option Outs := orIter (cxQ O) eqN (bodyOf Try.f24 4) (loopL eqN 3 60 skQ [] (FQ O))
set_option maxRecDepth 100000 in
theorem okE : CodeOK Try.prog eqN (.loop (bodyOf Try.f24 4)) (LE fops) := by
  refine orIter_ok (l := LQ fops) okLQ mixed 8 (loopL_ok (cx := cxQ fops) (lp := fun _ => none) (fun ts => body_ok (l := LQ fops) okLQ mixed 8 _ ts) fun p r hr hob => ?_)
  unfold FQ at hr
  split at hr <;> cases hr
  rename_i n m k m1 row' n1 row
  obtain ⟨e1, e2, e3, e4, h0, hm, hs, hs'⟩ := pB_iff.1 hob.head
  obtain ⟨h1, h2⟩ := eq_loops (datF row) (datG row) (datF row') (datG row') n hm n.toNat 0 (Int.le_refl _) (by omega)
  have hs1 : Row (datF row) (datG row) = row := hs.symm
  have hs2 : Row (datF row') (datG row') = row' := hs'.symm
  rw [hs1, hs2] at h1 h2
  rw [e1, e2, e3, e4]
  cases hq : eqFrom (q fops (datF row) (datG row) (datF row') (datG row')) 0 n.toNat with
  | true => exact ⟨_, _, _, by simp [pickX, SB.val], h1 hq⟩
  | false => exact ⟨_, _, _, by simp [pickX, SB.val], h2 hq⟩
/-- The contract of laws.eqFloat32S. -/
noncomputable def eqS (O : FOps) : CS := roS (canS (inl (cxQ O) Try.f24 ⟨fun _ => none, lpOf [(4, LE O)]⟩))
set_option maxRecDepth 100000 in
theorem cEqS : CallOK Try.prog 24 (eqS fops) := by
  have hb : Try.f24.body.isSome = true := by kernel_rfl
  obtain ⟨c, hc⟩ := Option.isSome_iff_exists.1 hb
  have h1 : (match Try.f24.body with | some c => onceB (loopsIn c) && (match loopAt 4 (loopsIn c) with | some _ => true | none => false) | none => false) = true := by kernel_rfl
  rw [hc] at h1
  simp only [Bool.and_eq_true] at h1
  exact (inlL_of (l := LQ fops) (ls := [(4, LE fops)]) okLQ mixed 8 Try.func24 (by kernel_rfl) (fun _ => none) hc h1.1 ⟨⟨_, bodyOf_at hc h1.2, okE⟩, trivial⟩).can.ro
theorem q_self (F : Nat → Int → Nat) (G : Nat → Int → Int) (m : Nat) : eqFrom (q fops F G F G) 0 m = true := eqFrom_all (fun k => by unfold q; exact sf_self _) m 0
/-! ### marked -/
noncomputable def mkF (O : FOps) (u : Int) (k : Int) (X : Nat → Int → Nat) (c : Nat) (j : Int) : Nat := bif decide (0 ≤ j) && decide (j < k) then O.ofInt .f32 (wr (u + 1 * j) c) else X c j
noncomputable def mkG (u : Int) (k : Int) (Y : Nat → Int → Int) (c : Nat) (j : Int) : Int := bif decide (0 ≤ j) && decide (j < k) then wr (u + 1 * j) c else Y c j
theorem mkF_zero (O : FOps) (u : Int) (X : Nat → Int → Nat) : mkF O u 0 X = X := by
  funext c j
  unfold mkF
  by_cases h : 0 ≤ j
  · rw [decide_eq_false (by omega : ¬ j < 0), Bool.and_false]; rfl
  · rw [decide_eq_false h]; rfl
theorem mkG_zero (u : Int) (X : Nat → Int → Int) : mkG u 0 X = X := by
  funext c j
  unfold mkG
  by_cases h : 0 ≤ j
  · rw [decide_eq_false (by omega : ¬ j < 0), Bool.and_false]; rfl
  · rw [decide_eq_false h]; rfl
theorem mkF_step {k : Int} (hk : 0 ≤ k) (O : FOps) (u : Int) (X : Nat → Int → Nat) : (fun c j => bif decide (j = k) then O.ofInt .f32 (wr (u + 1 * k) c) else mkF O u k X c j) = mkF O u (k + 1) X := by
  funext c j
  unfold mkF
  by_cases e : j = k
  · subst e
    have h1 : j < j + 1 := by omega
    simp [hk, h1]
  · rw [decide_eq_false e]
    by_cases h : j < k
    · rw [decide_eq_true h, decide_eq_true (by omega : j < k + 1)]; rfl
    · rw [decide_eq_false h, decide_eq_false (by omega : ¬ j < k + 1)]; rfl
theorem mkG_step {k : Int} (hk : 0 ≤ k) (u : Int) (X : Nat → Int → Int) : (fun c j => bif decide (j = k) then wr (u + 1 * k) c else mkG u k X c j) = mkG u (k + 1) X := by
  funext c j
  unfold mkG
  by_cases e : j = k
  · subst e
    have h1 : j < j + 1 := by omega
    simp [hk, h1]
  · rw [decide_eq_false e]
    by_cases h : j < k
    · rw [decide_eq_true h, decide_eq_true (by omega : j < k + 1)]; rfl
    · rw [decide_eq_false h, decide_eq_false (by omega : ¬ j < k + 1)]; rfl
noncomputable def skM : Sk := ⟨[(0, .c (.sl 1 0 1 false)), (1, .c (.int .i64)), (5, .c (.int .i64))], [(1, ⟨true, false, .rows 1⟩)], 2⟩
noncomputable def skME : Sk := ⟨[(1, .c (.int .i64))], [(1, ⟨true, false, .rows 1⟩)], 2⟩
noncomputable def maN : Nat := Try.f26.ntmps
noncomputable def onM (b : Bool) (t : Nat) : Option Bool := bif Nat.beq t 9 then some b else none
noncomputable def goM (O : FOps) (b : Bool) (sk : Sk) (X : Nat → Int → Nat) (Y : Nat → Int → Int) (n u k : Int) : Option (Option XK × List LD × List Bool) :=
  goL (cxT O) maN ⟨onM b, fun _ => none⟩ (bodyOf Try.f26 2) 2 60 skM [] sk [.i n, .i u, .i k, .i n, .r (Row X Y)]
set_option maxRecDepth 100000 in
theorem ma_step (O : FOps) (X : Nat → Int → Nat) (Y : Nat → Int → Int) (n u k : Int) : goM O true skM X Y n u k =
    some (none, [.i n, .i (wr u 1), .i (IntKind.i64.wrap (k + 1)), .i n, .r (Row (fun c j => bif decide (j = k) then O.ofInt .f32 (wr u c) else X c j) (fun c j => bif decide (j = k) then wr u c else Y c j))],
      decide (k < n) :: (List.replicate 2 (decide (0 ≤ k ∧ k < n)) ++ [flatR (Row (fun c j => bif decide (j = k) then O.ofInt .f32 (wr u c) else X c j) (fun c j => bif decide (j = k) then wr u c else Y c j))])) := by kernel_rfl
set_option maxRecDepth 100000 in
theorem ma_end (O : FOps) (X : Nat → Int → Nat) (Y : Nat → Int → Int) (n u k : Int) : goM O false skME X Y n u k = some (some (.exit 0), [.i u, .i n, .r (Row X Y)], [!decide (k < n), flatR (Row X Y)]) := by kernel_rfl
theorem ma_loops (n u : Int) (X : Nat → Int → Nat) (Y : Nat → Int → Int) (hn : n ≤ 1048576) (hu : 0 ≤ u) (hu2 : u ≤ 50000000) : ∀ (m : Nat) (k : Int), 0 ≤ k → k + m = n →
    Loops (cxT fops) maN (fun _ => none) (bodyOf Try.f26 2) 2 60 skM [.i n, .i (u + 1 * k), .i k, .i n, .r (Row (mkF fops u k X) (mkG u k Y))] (.exit 0) skME [.i (u + 1 * n), .i n, .r (Row (mkF fops u n X) (mkG u n Y))] := by
  intro m
  induction m with
  | zero =>
    intro k hk hkn
    have e : k = n := by omega
    subst e
    exact .done (ts := onM false) (ρ := []) (ma_end fops (mkF fops u k X) (mkG u k Y) k (u + 1 * k) k) (AllT.cons (by simp) (AllT.cons (rowK_flat _ _ _) AllT.nil))
  | succ m ih =>
    intro k hk hkn
    have h1 := ma_step fops (mkF fops u k X) (mkG u k Y) n (u + 1 * k) k
    have hw : wr (u + 1 * k) 1 = u + 1 * (k + 1) := by rw [wr_eq (by omega) (by omega)]; omega
    rw [mkF_step hk, mkG_step hk, hw, wrap_succ hk (by omega)] at h1
    have hd : decide (k < n) = true := by simp; omega
    have hd2 : decide (0 ≤ k ∧ k < n) = true := by simp; omega
    exact .step (ts := onM true) (ρ := []) h1 (AllT.cons hd (AllT.app (AllT.rep hd2 _) (AllT.cons (rowK_flat _ _ _) AllT.nil))) (ih (k + 1) (by omega) (by omega))
def PreM (n u k n1 : Int) (row : Int → List SC) : Prop := k = 0 ∧ n1 = n ∧ 0 ≤ n ∧ n ≤ 1048576 ∧ 0 ≤ u ∧ u ≤ 50000000 ∧ Shape ts row
noncomputable def FM (O : FOps) : List LD → Option (XO × List Bool)
  | [.i n, .i u, .i k, .i n1, .r row] => some ([(.t, .exit 0, skME, [.i (u + 1 * n), .i n, .r (Row (mkF O u n (datF row)) (mkG u n (datG row)))])], [pB (PreM n u k n1 row)])
  | _ => none
noncomputable def LM (O : FOps) : List Ly → Top → Option Outs := orIter (cxT O) maN (bodyOf Try.f26 2) (loopL maN 2 60 skM [] (FM O))
set_option maxRecDepth 100000 in
theorem okM : CodeOK Try.prog maN (.loop (bodyOf Try.f26 2)) (LM fops) := by
  refine orIter_ok (l := []) trivial mixed 8 (loopL_ok (cx := cxT fops) (lp := fun _ => none) (fun ts => body_ok (l := []) trivial mixed 8 _ ts) fun p r hr hob => ?_)
  unfold FM at hr
  split at hr <;> cases hr
  rename_i n u k n1 row
  obtain ⟨e1, e2, h0, hm, hu, hu1, hs⟩ := pB_iff.1 hob.head
  refine ⟨_, _, _, rfl, ?_⟩
  have h1 := ma_loops n u (datF row) (datG row) hm hu hu1 n.toNat 0 (Int.le_refl _) (by omega)
  have hs1 : Row (datF row) (datG row) = row := hs.symm
  rw [mkF_zero, mkG_zero, hs1, Int.mul_zero, Int.add_zero] at h1
  rw [e1, e2]
  exact h1
/-- The contract of laws.markFloat32S. -/
noncomputable def maS (O : FOps) : CS := canS (inl (cxT O) Try.f26 ⟨fun _ => none, lpOf [(2, LM O)]⟩)
set_option maxRecDepth 100000 in
theorem cMa : CallOK Try.prog 26 (maS fops) := by
  have hb : Try.f26.body.isSome = true := by kernel_rfl
  obtain ⟨c, hc⟩ := Option.isSome_iff_exists.1 hb
  have h1 : (match Try.f26.body with | some c => onceB (loopsIn c) && (match loopAt 2 (loopsIn c) with | some _ => true | none => false) | none => false) = true := by kernel_rfl
  rw [hc] at h1
  simp only [Bool.and_eq_true] at h1
  exact (inlL_of (l := []) (ls := [(2, LM fops)]) trivial mixed 8 Try.func26 (by kernel_rfl) (fun _ => none) hc h1.1 ⟨⟨_, bodyOf_at hc h1.2, okM⟩, trivial⟩).can
/-! ### held -/
theorem int_num (k : FloatKind) (n : Int) : nanb k (fops.ofInt k n) = false := write_not_nan k.format (.number (n < 0) n.natAbs 0) rfl
noncomputable def skH : Sk := ⟨[(0, .c (.sl 1 0 1 false)), (1, .c (.int .i64)), (5, .c (.int .i64))], [(1, ⟨false, false, .rows 1⟩)], 2⟩
noncomputable def skHE : Sk := ⟨[(1, .c (.int .i64))], [], 2⟩
noncomputable def heN : Nat := Try.f27.ntmps
noncomputable def onH (b : Bool) (t : Nat) : Option Bool := bif Nat.beq t 9 then some b else bif Nat.beq t 18 then some false else none
noncomputable def goH (O : FOps) (b : Bool) (sk : Sk) (F : Nat → Int → Nat) (G : Nat → Int → Int) (n u k : Int) : Option (Option XK × List LD × List Bool) :=
  goL (cxT O) heN ⟨onH b, fun _ => none⟩ (bodyOf Try.f27 2) 2 60 skH [] sk [.i n, .i u, .i k, .i n, .r (Row F G)]
noncomputable def hob (O : FOps) (F : Nat → Int → Nat) (G : Nat → Int → Int) (n u k : Int) : List Bool := [decide (k < n), decide (0 ≤ k ∧ k < n), decide (0 ≤ k ∧ k < n), !O.cmp .neq .f32 (F 0 k) (O.ofInt .f32 (wr u 0)), flatR (Row F G)]
set_option maxRecDepth 100000 in
theorem he_step (O : FOps) (F : Nat → Int → Nat) (G : Nat → Int → Int) (n u k : Int) : goH O true skH F G n u k =
    some (none, [.i n, .i (wr u 1), .i (IntKind.i64.wrap (k + 1)), .i n, .r (Row F G)], hob O F G n u k) := by kernel_rfl
set_option maxRecDepth 100000 in
theorem he_end (O : FOps) (F : Nat → Int → Nat) (G : Nat → Int → Int) (n u k : Int) : goH O false skHE F G n u k = some (some (.exit 0), [.i u], [!decide (k < n)]) := by kernel_rfl
theorem he_loops (n u : Int) (X : Nat → Int → Nat) (Y : Nat → Int → Int) (hn : n ≤ 1048576) (hu : 0 ≤ u) (hu2 : u ≤ 50000000) : ∀ (m : Nat) (k : Int), 0 ≤ k → k + m = n →
    Loops (cxT fops) heN (fun _ => none) (bodyOf Try.f27 2) 2 60 skH [.i n, .i (u + 1 * k), .i k, .i n, .r (Row (mkF fops u n X) (mkG u n Y))] (.exit 0) skHE [.i (u + 1 * n)] := by
  intro m
  induction m with
  | zero =>
    intro k hk hkn
    have e : k = n := by omega
    subst e
    exact .done (ts := onH false) (ρ := []) (he_end fops (mkF fops u k X) (mkG u k Y) k (u + 1 * k) k) (AllT.cons (by simp) AllT.nil)
  | succ m ih =>
    intro k hk hkn
    have h1 := he_step fops (mkF fops u n X) (mkG u n Y) n (u + 1 * k) k
    have hw : wr (u + 1 * k) 1 = u + 1 * (k + 1) := by rw [wr_eq (by omega) (by omega)]; omega
    rw [hw, wrap_succ hk (by omega)] at h1
    have hd : decide (k < n) = true := by simp; omega
    have hd2 : decide (0 ≤ k ∧ k < n) = true := by simp; omega
    have hg : (decide (0 ≤ k) && decide (k < n)) = true := by simp; omega
    have eF : ∀ c, mkF fops u n X c k = fops.ofInt .f32 (wr (u + 1 * k) c) := fun c => by unfold mkF; rw [hg]; rfl
    have eG : ∀ c, mkG u n Y c k = wr (u + 1 * k) c := fun c => by unfold mkG; rw [hg]; rfl
    have ho : AllT (hob fops (mkF fops u n X) (mkG u n Y) n (u + 1 * k) k) := AllT.cons hd (AllT.cons hd2 (AllT.cons hd2 (AllT.cons (by rw [eF, cmp_neq_self, int_num]; rfl) (AllT.cons (rowK_flat _ _ _) AllT.nil))))
    exact .step (ts := onH true) (ρ := []) h1 ho (ih (k + 1) (by omega) (by omega))
/-- The rows are marked, from 'u' on. -/
def Marked (u n : Int) (row : Int → List SC) : Prop := ∃ X Y, row = Row (mkF fops u n X) (mkG u n Y)
def PreH (n u k n1 : Int) (row : Int → List SC) : Prop := k = 0 ∧ n1 = n ∧ 0 ≤ n ∧ n ≤ 1048576 ∧ 0 ≤ u ∧ u ≤ 50000000 ∧ Marked u n row
noncomputable def FH : List LD → Option (XO × List Bool)
  | [.i n, .i u, .i k, .i n1, .r row] => some ([(.t, .exit 0, skHE, [.i (u + 1 * n)])], [pB (PreH n u k n1 row)])
  | _ => none
noncomputable def LH (O : FOps) : List Ly → Top → Option Outs := orIter (cxT O) heN (bodyOf Try.f27 2) (loopL heN 2 60 skH [] FH)
set_option maxRecDepth 100000 in
theorem okH : CodeOK Try.prog heN (.loop (bodyOf Try.f27 2)) (LH fops) := by
  refine orIter_ok (l := []) trivial mixed 8 (loopL_ok (cx := cxT fops) (lp := fun _ => none) (fun ts => body_ok (l := []) trivial mixed 8 _ ts) fun p r hr hob => ?_)
  unfold FH at hr
  split at hr <;> cases hr
  rename_i n u k n1 row
  obtain ⟨e1, e2, h0, hm, hu, hu1, X, Y, hs⟩ := pB_iff.1 hob.head
  refine ⟨_, _, _, rfl, ?_⟩
  have h1 := he_loops n u X Y hm hu hu1 n.toNat 0 (Int.le_refl _) (by omega)
  rw [Int.mul_zero, Int.add_zero] at h1
  rw [e1, e2, hs]
  exact h1
/-- The contract of laws.heldFloat32S. -/
noncomputable def heS (O : FOps) : CS := roS (canS (inl (cxT O) Try.f27 ⟨fun _ => none, lpOf [(2, LH O)]⟩))
set_option maxRecDepth 100000 in
theorem cHe : CallOK Try.prog 27 (heS fops) := by
  have hb : Try.f27.body.isSome = true := by kernel_rfl
  obtain ⟨c, hc⟩ := Option.isSome_iff_exists.1 hb
  have h1 : (match Try.f27.body with | some c => onceB (loopsIn c) && (match loopAt 2 (loopsIn c) with | some _ => true | none => false) | none => false) = true := by kernel_rfl
  rw [hc] at h1
  simp only [Bool.and_eq_true] at h1
  exact (inlL_of (l := []) (ls := [(2, LH fops)]) trivial mixed 8 Try.func27 (by kernel_rfl) (fun _ => none) hc h1.1 ⟨⟨_, bodyOf_at hc h1.2, okH⟩, trivial⟩).can.ro
/-! ### told by hand -/
noncomputable section
theorem shape_flat {row : Int → List SC} (h : Shape ts row) : flatR row = true := by rw [h]; exact rowK_flat _ _ _
/-- The rows of a copy. -/
def cpR (n : Int) (row : Int → List SC) : Int → List SC := Row (clF n (datF row)) (clG n (datG row))
/-- The rows when they are marked. -/
def mkR (O : FOps) (u n : Int) (row : Int → List SC) : Int → List SC := Row (mkF O u n (datF row)) (mkG u n (datG row))
def okN (n N : Int) (row : Int → List SC) : Bool := pB (N = n ∧ 0 ≤ n ∧ n ≤ 1048576 ∧ Shape ts row)
def okM' (n u N : Int) (row : Int → List SC) : Bool := pB (N = n ∧ 0 ≤ n ∧ n ≤ 1048576 ∧ 0 ≤ u ∧ u ≤ 50000000 ∧ Shape ts row)
def okH' (n u N : Int) (row : Int → List SC) : Bool := pB (N = n ∧ 0 ≤ n ∧ n ≤ 1048576 ∧ 0 ≤ u ∧ u ≤ 50000000 ∧ Marked u n row)
def okE' (n N : Int) (row : Int → List SC) (m M : Int) (row' : Int → List SC) : Bool := !decide (n = m) || pB (N = n ∧ M = n ∧ 0 ≤ n ∧ n ≤ 1048576 ∧ Shape ts row ∧ Shape ts row')
def eqR (O : FOps) (n m : Int) (row row' : Int → List SC) : Bool := bif !decide (n = m) then false else bif !eqFrom (q O (datF row) (datG row) (datF row') (datG row')) 0 n.toNat then false else true
theorem eqR_self (n : Int) (row : Int → List SC) : eqR fops n n row row = true := by
  unfold eqR
  rw [decide_eq_true rfl, q_self]
  rfl
def Z0 : Int → List SC := Row (fun _ _ => 0) (fun _ _ => 0)
set_option maxRecDepth 100000 in
theorem to_run (O : FOps) (f w o : Bool) (n N : Int) (row : Int → List SC) : nwS (inl (cxT O) Try.f22 ⟨fun _ => none, lpOf [(3, LT O)]⟩) 2 [.c (.sl 1 0 1 (.s n) f)] [(1, ⟨w, o, .rows 1 N row⟩)] =
    some ⟨.c (.sl 2 0 1 (.s n) true), [(2, some ⟨true, true, .rows 1 n (cpR n row)⟩)], 60, [decide (n = n ∧ 0 ≤ n ∧ n ≤ 100000000), flatR row, flatR Z0, pB (PreT n n 0 N row n Z0)]⟩ := by kernel_rfl
def toH : CS := fun base args rd => match args with
  | [.c (.sl i o es (.s n) _)] => match rd with
    | [(j, ⟨_, _, .rows st N row⟩)] => match Nat.beq base 2 && (Nat.beq i 1 && (Nat.beq o 0 && (Nat.beq es 1 && (Nat.beq j 1 && Nat.beq st 1)))) with
      | true => some ⟨.c (.sl 2 0 1 (.s n) true), [(2, some ⟨true, true, .rows 1 n (cpR n row)⟩)], 60, [okN n N row]⟩
      | false => none
    | _ => none
  | _ => none
set_option maxRecDepth 100000 in
theorem cTo0 : CallOK Try.prog 22 (inl (cxT fops) Try.f22 ⟨fun _ => none, lpOf [(3, LT fops)]⟩) := by
  have hb : Try.f22.body.isSome = true := by kernel_rfl
  obtain ⟨c, hc⟩ := Option.isSome_iff_exists.1 hb
  have h1 : (match Try.f22.body with | some c => onceB (loopsIn c) && (match loopAt 3 (loopsIn c) with | some _ => true | none => false) | none => false) = true := by kernel_rfl
  rw [hc] at h1
  simp only [Bool.and_eq_true] at h1
  exact inlL_of (l := []) (ls := [(3, LT fops)]) trivial mixed 8 Try.func22 (by kernel_rfl) (fun _ => none) hc h1.1 ⟨⟨_, bodyOf_at hc h1.2, okT⟩, trivial⟩
def toC (O : FOps) : CS := orS (canS toH) (inl (cxT O) Try.f22 noH)
set_option maxRecDepth 100000 in
theorem cToC : CallOK Try.prog 22 (toC fops) :=
  (CallOK.hand (H := toH) cTo0.nw fun b args rd e h hob => by
    unfold toH at h
    split at h <;> try (cases h; done)
    rename_i i o es n f
    split at h <;> try (cases h; done)
    rename_i j w o' st N row
    split at h <;> cases h
    rename_i hc
    simp only [Bool.and_eq_true, beqN] at hc
    obtain ⟨rfl, rfl, rfl, rfl, rfl, rfl⟩ := hc
    obtain ⟨rfl, h0, hm, hs⟩ := pB_iff.1 hob.head
    exact ⟨_, to_run fops f w o' N N row, AllT.cons (by simp; omega) (AllT.cons (shape_flat hs) (AllT.cons (rowK_flat _ _ _) (AllT.cons (pB_iff.2 ⟨rfl, rfl, rfl, rfl, h0, hm, hs, rfl⟩) AllT.nil)))⟩).can.or
    (inlN_of (l := []) trivial mixed 8 Try.func22 (by kernel_rfl) (fun _ => none))
set_option maxRecDepth 100000 in
theorem ma_run (O : FOps) (f o : Bool) (n N : Int) (u : SI) (row : Int → List SC) : inl (cxT O) Try.f26 ⟨fun _ => none, lpOf [(2, LM O)]⟩ 2 [.c (.sl 1 0 1 (.s n) f), .c (.int .i64 u)] [(1, ⟨true, o, .rows 1 N row⟩)] =
    some ⟨.c (.int .i64 (.s (u.val + 1 * n))), [(1, some ⟨true, false, .rows 1 n (mkR O u.val n row)⟩)], 60, [flatR row, pB (PreM n u.val 0 N row)]⟩ := by kernel_rfl
def maH (O : FOps) : CS := fun base args rd => match args with
  | [.c (.sl i o es (.s n) _), .c (.int .i64 u)] => match rd with
    | [(j, ⟨true, _, .rows st N row⟩)] => match Nat.beq base 2 && (Nat.beq i 1 && (Nat.beq o 0 && (Nat.beq es 1 && (Nat.beq j 1 && Nat.beq st 1)))) with
      | true => some ⟨.c (.int .i64 (.s (u.val + 1 * n))), [(1, some ⟨true, false, .rows 1 n (mkR O u.val n row)⟩)], 60, [okM' n u.val N row]⟩
      | false => none
    | _ => none
  | _ => none
set_option maxRecDepth 100000 in
theorem cMa0 : CallOK Try.prog 26 (inl (cxT fops) Try.f26 ⟨fun _ => none, lpOf [(2, LM fops)]⟩) := by
  have hb : Try.f26.body.isSome = true := by kernel_rfl
  obtain ⟨c, hc⟩ := Option.isSome_iff_exists.1 hb
  have h1 : (match Try.f26.body with | some c => onceB (loopsIn c) && (match loopAt 2 (loopsIn c) with | some _ => true | none => false) | none => false) = true := by kernel_rfl
  rw [hc] at h1
  simp only [Bool.and_eq_true] at h1
  exact inlL_of (l := []) (ls := [(2, LM fops)]) trivial mixed 8 Try.func26 (by kernel_rfl) (fun _ => none) hc h1.1 ⟨⟨_, bodyOf_at hc h1.2, okM⟩, trivial⟩
def maC (O : FOps) : CS := orS (canS (maH O)) (inl (cxT O) Try.f26 noH)
set_option maxRecDepth 100000 in
theorem cMaC : CallOK Try.prog 26 (maC fops) :=
  (CallOK.hand (H := maH fops) cMa0 fun b args rd e h hob => by
    unfold maH at h
    split at h <;> try (cases h; done)
    rename_i i o es n f u
    split at h <;> try (cases h; done)
    rename_i j o' st N row
    split at h <;> cases h
    rename_i hc
    simp only [Bool.and_eq_true, beqN] at hc
    obtain ⟨rfl, rfl, rfl, rfl, rfl, rfl⟩ := hc
    obtain ⟨rfl, h0, hm, hu, hu1, hs⟩ := pB_iff.1 hob.head
    exact ⟨_, ma_run fops f o' N N u row, AllT.cons (shape_flat hs) (AllT.cons (pB_iff.2 ⟨rfl, rfl, h0, hm, hu, hu1, hs⟩) AllT.nil)⟩).can.or
    (inlN_of (l := []) trivial mixed 8 Try.func26 (by kernel_rfl) (fun _ => none))
set_option maxRecDepth 100000 in
theorem he_run (O : FOps) (f w o : Bool) (n N : Int) (u : SI) (row : Int → List SC) : roS (inl (cxT O) Try.f27 ⟨fun _ => none, lpOf [(2, LH O)]⟩) 2 [.c (.sl 1 0 1 (.s n) f), .c (.int .i64 u)] [(1, ⟨w, o, .rows 1 N row⟩)] =
    some ⟨.c (.int .i64 (.s (u.val + 1 * n))), [], 60, [flatR row, pB (PreH n u.val 0 N row)]⟩ := by kernel_rfl
def heH : CS := fun base args rd => match args with
  | [.c (.sl i o es (.s n) _), .c (.int .i64 u)] => match rd with
    | [(j, ⟨_, _, .rows st N row⟩)] => match Nat.beq base 2 && (Nat.beq i 1 && (Nat.beq o 0 && (Nat.beq es 1 && (Nat.beq j 1 && Nat.beq st 1)))) with
      | true => some ⟨.c (.int .i64 (.s (u.val + 1 * n))), [], 60, [okH' n u.val N row]⟩
      | false => none
    | _ => none
  | _ => none
theorem marked_shape {u n : Int} {row : Int → List SC} (h : Marked u n row) : Shape ts row := by
  obtain ⟨X, Y, rfl⟩ := h
  exact shape_row _ _
theorem mkR_marked (u n : Int) (row : Int → List SC) : Marked u n (mkR fops u n row) := ⟨_, _, rfl⟩
set_option maxRecDepth 100000 in
theorem cHe0 : CallOK Try.prog 27 (inl (cxT fops) Try.f27 ⟨fun _ => none, lpOf [(2, LH fops)]⟩) := by
  have hb : Try.f27.body.isSome = true := by kernel_rfl
  obtain ⟨c, hc⟩ := Option.isSome_iff_exists.1 hb
  have h1 : (match Try.f27.body with | some c => onceB (loopsIn c) && (match loopAt 2 (loopsIn c) with | some _ => true | none => false) | none => false) = true := by kernel_rfl
  rw [hc] at h1
  simp only [Bool.and_eq_true] at h1
  exact inlL_of (l := []) (ls := [(2, LH fops)]) trivial mixed 8 Try.func27 (by kernel_rfl) (fun _ => none) hc h1.1 ⟨⟨_, bodyOf_at hc h1.2, okH⟩, trivial⟩
def heC (O : FOps) : CS := orS (canS heH) (inl (cxT O) Try.f27 noH)
set_option maxRecDepth 100000 in
theorem cHeC : CallOK Try.prog 27 (heC fops) :=
  (CallOK.hand (H := heH) cHe0.ro fun b args rd e h hob => by
    unfold heH at h
    split at h <;> try (cases h; done)
    rename_i i o es n f u
    split at h <;> try (cases h; done)
    rename_i j w o' st N row
    split at h <;> cases h
    rename_i hc
    simp only [Bool.and_eq_true, beqN] at hc
    obtain ⟨rfl, rfl, rfl, rfl, rfl, rfl⟩ := hc
    obtain ⟨rfl, h0, hm, hu, hu1, hs⟩ := pB_iff.1 hob.head
    exact ⟨_, he_run fops f w o' N N u row, AllT.cons (shape_flat (marked_shape hs)) (AllT.cons (pB_iff.2 ⟨rfl, rfl, h0, hm, hu, hu1, hs⟩) AllT.nil)⟩).can.or
    (inlN_of (l := []) trivial mixed 8 Try.func27 (by kernel_rfl) (fun _ => none))
set_option maxRecDepth 100000 in
theorem eq_run (O : FOps) (f w o f' w' o' : Bool) (n N m M : Int) (row row' : Int → List SC) : roS (inl (cxQ O) Try.f24 ⟨fun _ => none, lpOf [(4, LE O)]⟩) 3 [.c (.sl 2 0 1 (.s n) f), .c (.sl 1 0 1 (.s m) f')] [(1, ⟨w', o', .rows 1 M row'⟩), (2, ⟨w, o, .rows 1 N row⟩)] =
    some ⟨.c (.bool (.s (eqR O n m row row'))), [], 60, gdB (!decide (n = m)) [flatR row', flatR row, pB (PreQ n m 0 N row M row')]⟩ := by kernel_rfl
def eqH (O : FOps) : CS := fun base args rd => match args with
  | [.c (.sl i o es (.s n) _), .c (.sl i' o' es' (.s m) _)] => match rd with
    | [(j', ⟨_, _, .rows st' M row'⟩), (j, ⟨_, _, .rows st N row⟩)] => match Nat.beq base 3 && (Nat.beq i 2 && (Nat.beq o 0 && (Nat.beq es 1 && (Nat.beq j 2 && (Nat.beq st 1 && (Nat.beq i' 1 && (Nat.beq o' 0 && (Nat.beq es' 1 && (Nat.beq j' 1 && Nat.beq st' 1))))))))) with
      | true => some ⟨.c (.bool (.s (eqR O n m row row'))), [], 60, [okE' n N row m M row']⟩
      | false => none
    | _ => none
  | _ => none
set_option maxRecDepth 100000 in
theorem cEq0 : CallOK Try.prog 24 (inl (cxQ fops) Try.f24 ⟨fun _ => none, lpOf [(4, LE fops)]⟩) := by
  have hb : Try.f24.body.isSome = true := by kernel_rfl
  obtain ⟨c, hc⟩ := Option.isSome_iff_exists.1 hb
  have h1 : (match Try.f24.body with | some c => onceB (loopsIn c) && (match loopAt 4 (loopsIn c) with | some _ => true | none => false) | none => false) = true := by kernel_rfl
  rw [hc] at h1
  simp only [Bool.and_eq_true] at h1
  exact inlL_of (l := LQ fops) (ls := [(4, LE fops)]) okLQ mixed 8 Try.func24 (by kernel_rfl) (fun _ => none) hc h1.1 ⟨⟨_, bodyOf_at hc h1.2, okE⟩, trivial⟩
def eqC (O : FOps) : CS := orS (canS (eqH O)) (inl (cxQ O) Try.f24 noH)
set_option maxRecDepth 100000 in
theorem cEqC : CallOK Try.prog 24 (eqC fops) :=
  (CallOK.hand (H := eqH fops) cEq0.ro fun b args rd e h hob => by
    unfold eqH at h
    split at h <;> try (cases h; done)
    rename_i i o es n f i' o' es' m f'
    split at h <;> try (cases h; done)
    rename_i j' w' p' st' M row' j w p st N row
    split at h <;> cases h
    rename_i hc
    simp only [Bool.and_eq_true, beqN] at hc
    obtain ⟨rfl, rfl, rfl, rfl, rfl, rfl, rfl, rfl, rfl, rfl, rfl⟩ := hc
    refine ⟨_, eq_run fops f w p f' w' p' n N m M row row', gdB_ok fun hg => ?_⟩
    have hnm : decide (n = m) = true := by simpa using hg
    have ho := hob.head
    unfold okE' at ho
    rw [hnm] at ho
    obtain ⟨e1, e2, h0, hm, hs, hs'⟩ := pB_iff.1 (show pB _ = true from ho)
    exact AllT.cons (shape_flat hs') (AllT.cons (shape_flat hs) (AllT.cons (pB_iff.2 ⟨(of_decide_eq_true hnm).symm, rfl, e1, e2, h0, hm, hs, hs'⟩) AllT.nil))).can.or
    (inlN_of (l := LQ fops) okLQ mixed 8 Try.func24 (by kernel_rfl) (fun _ => none))
end
end Go.Proofs.Ytaoeigofmfpamaa.SlFloat32
end

/- Slices of Wall: how they are made, compared and marked. Nothing is assumed. -/
section
namespace Go.Proofs.Ytaoeigofmfpamaa.SlWall
open Go
noncomputable def ts : List KK := [.int .i64, .int .i64, .flt .f32, .flt .f32, .flt .f32, .flt .f32, .flt .f32, .flt .f32]
noncomputable abbrev Row (F : Nat → Int → Nat) (G : Nat → Int → Int) : Int → List SC := rowK ts F G
theorem shape_row (F : Nat → Int → Nat) (G : Nat → Int → Int) : Shape ts (Row F G) := by
  unfold Shape
  funext j
  rfl
/-! ### made anew -/
noncomputable def skT : Sk := ⟨[(0, .c (.sl 1 0 8 false)), (3, .c (.sl 2 0 8 true)), (4, .c (.int .i64))], [(1, ⟨false, false, .rows 8⟩), (2, ⟨true, true, .rows 8⟩)], 3⟩
noncomputable def skTE : Sk := ⟨[(3, .c (.sl 2 0 8 true))], [(1, ⟨false, false, .rows 8⟩), (2, ⟨true, true, .rows 8⟩)], 3⟩
noncomputable def cxT (O : FOps) : Cx := ⟨Try.prog, O, orcN Try.prog O [] 8⟩
noncomputable def toN : Nat := Try.f39.ntmps
noncomputable def onT (b : Bool) (t : Nat) : Option Bool := bif Nat.beq t 11 then some b else none
noncomputable def goT (O : FOps) (b : Bool) (sk : Sk) (F : Nat → Int → Nat) (G : Nat → Int → Int) (X : Nat → Int → Nat) (Y : Nat → Int → Int) (n k : Int) : Option (Option XK × List LD × List Bool) :=
  goL (cxT O) toN ⟨onT b, fun _ => none⟩ (bodyOf Try.f39 3) 3 60 skT [] sk [.i n, .i n, .i k, .i n, .r (Row F G), .i n, .r (Row X Y)]
set_option maxRecDepth 100000 in
theorem to_step (O : FOps) (F : Nat → Int → Nat) (G : Nat → Int → Int) (X : Nat → Int → Nat) (Y : Nat → Int → Int) (n k : Int) : goT O true skT F G X Y n k =
    some (none, [.i n, .i n, .i (IntKind.i64.wrap (k + 1)), .i n, .r (Row F G), .i n, .r (Row (fun c j => bif decide (j = k) then F c k else X c j) (fun c j => bif decide (j = k) then G c k else Y c j))],
      [decide (k < n), decide (0 ≤ k ∧ k < n), decide (0 ≤ k ∧ k < n), decide (0 ≤ k ∧ k < n), decide (0 ≤ k ∧ k < n), flatR (Row F G), flatR (Row (fun c j => bif decide (j = k) then F c k else X c j) (fun c j => bif decide (j = k) then G c k else Y c j))]) := by kernel_rfl
set_option maxRecDepth 100000 in
theorem to_end (O : FOps) (F : Nat → Int → Nat) (G : Nat → Int → Int) (X : Nat → Int → Nat) (Y : Nat → Int → Int) (n k : Int) : goT O false skTE F G X Y n k =
    some (some (.exit 0), [.i n, .i n, .r (Row F G), .i n, .r (Row X Y)], [!decide (k < n), flatR (Row F G), flatR (Row X Y)]) := by kernel_rfl
noncomputable def PreT (n m k n1 : Int) (row : Int → List SC) (n2 : Int) (out : Int → List SC) : Prop :=
  m = n ∧ k = 0 ∧ n1 = n ∧ n2 = n ∧ 0 ≤ n ∧ n ≤ 1048576 ∧ Shape ts row ∧ out = Row (fun _ _ => 0) (fun _ _ => 0)
noncomputable def FT : List LD → Option (XO × List Bool)
  | [.i n, .i m, .i k, .i n1, .r row, .i n2, .r out] => some ([(.t, .exit 0, skTE, [.i n, .i n, .r row, .i n, .r (Row (clF n (datF row)) (clG n (datG row)))])], [pB (PreT n m k n1 row n2 out)])
  | _ => none
theorem to_loops (F : Nat → Int → Nat) (G : Nat → Int → Int) (n : Int) (hn : n ≤ 1048576) : ∀ (m : Nat) (k : Int), 0 ≤ k → k + m = n →
    Loops (cxT fops) toN (fun _ => none) (bodyOf Try.f39 3) 3 60 skT [.i n, .i n, .i k, .i n, .r (Row F G), .i n, .r (Row (clF k F) (clG k G))] (.exit 0) skTE [.i n, .i n, .r (Row F G), .i n, .r (Row (clF n F) (clG n G))] := by
  intro m
  induction m with
  | zero =>
    intro k hk hkn
    have e : k = n := by omega
    subst e
    refine .done (ts := onT false) (ρ := []) (to_end fops F G (clF k F) (clG k G) k k) ?_
    refine AllT.cons (by simp) (AllT.cons (rowK_flat _ _ _) (AllT.cons (rowK_flat _ _ _) AllT.nil))
  | succ m ih =>
    intro k hk hkn
    have h1 := to_step fops F G (clF k F) (clG k G) n k
    rw [clF_step hk, clG_step hk, wrap_succ hk (by omega)] at h1
    have hd : decide (k < n) = true := by simp; omega
    have hd2 : decide (0 ≤ k ∧ k < n) = true := by simp; omega
    exact .step (ts := onT true) (ρ := []) h1 (AllT.cons hd (AllT.cons hd2 (AllT.cons hd2 (AllT.cons hd2 (AllT.cons hd2 (AllT.cons (rowK_flat _ _ _) (AllT.cons (rowK_flat _ _ _) AllT.nil))))))) (ih (k + 1) (by omega) (by omega))
noncomputable def LT (O : FOps) : List Ly → Top → Option Outs := orIter (cxT O) toN (bodyOf Try.f39 3) (loopL toN 3 60 skT [] FT)
set_option maxRecDepth 100000 in
theorem okT : CodeOK Try.prog toN (.loop (bodyOf Try.f39 3)) (LT fops) := by
  refine orIter_ok (l := []) trivial mixed 8 (loopL_ok (cx := cxT fops) (lp := fun _ => none) (fun ts => body_ok (l := []) trivial mixed 8 _ ts) fun p r hr hob => ?_)
  unfold FT at hr
  split at hr <;> cases hr
  rename_i n m k n1 row n2 out
  obtain ⟨e1, e2, e3, e4, h0, hm, hs, e5⟩ := pB_iff.1 hob.head
  refine ⟨_, _, _, rfl, ?_⟩
  have h1 := to_loops (datF row) (datG row) n hm n.toNat 0 (Int.le_refl _) (by omega)
  rw [clF_zero, clG_zero] at h1
  rw [e1, e2, e3, e4, e5, hs]
  exact h1
/-- The contract of laws.toWallS. -/
noncomputable def toS (O : FOps) : CS := canS (inl (cxT O) Try.f39 ⟨fun _ => none, lpOf [(3, LT O)]⟩)
set_option maxRecDepth 100000 in
theorem cTo : CallOK Try.prog 39 (toS fops) := by
  have hb : Try.f39.body.isSome = true := by kernel_rfl
  obtain ⟨c, hc⟩ := Option.isSome_iff_exists.1 hb
  have h1 : (match Try.f39.body with | some c => onceB (loopsIn c) && (match loopAt 3 (loopsIn c) with | some _ => true | none => false) | none => false) = true := by kernel_rfl
  rw [hc] at h1
  simp only [Bool.and_eq_true] at h1
  exact (inlL_of (l := []) (ls := [(3, LT fops)]) trivial mixed 8 Try.func39 (by kernel_rfl) (fun _ => none) hc h1.1 ⟨⟨_, bodyOf_at hc h1.2, okT⟩, trivial⟩).can
/-! ### compared -/
noncomputable def q (O : FOps) (F : Nat → Int → Nat) (G : Nat → Int → Int) (H : Nat → Int → Nat) (I : Nat → Int → Int) (k : Int) : Bool := bif !decide (G 0 k = I 0 k) then false else bif !decide (G 1 k = I 1 k) then false else bif !sf O (O.conv .f32 .f64 (F 2 k)) (O.conv .f32 .f64 (H 2 k)) then false else bif !sf O (O.conv .f32 .f64 (F 3 k)) (O.conv .f32 .f64 (H 3 k)) then false else bif !(bif !sf O (O.conv .f32 .f64 (F 4 k)) (O.conv .f32 .f64 (H 4 k)) then false else bif !sf O (O.conv .f32 .f64 (F 5 k)) (O.conv .f32 .f64 (H 5 k)) then false else bif !sf O (O.conv .f32 .f64 (F 6 k)) (O.conv .f32 .f64 (H 6 k)) then false else bif !sf O (O.conv .f32 .f64 (F 7 k)) (O.conv .f32 .f64 (H 7 k)) then false else true) then false else true
noncomputable def skQ : Sk := ⟨[(0, .c (.sl 2 0 8 false)), (1, .c (.sl 1 0 8 false)), (5, .c (.int .i64))], [(1, ⟨false, false, .rows 8⟩), (2, ⟨false, false, .rows 8⟩)], 3⟩
noncomputable def skQR : Sk := ⟨[(4, .c (.boolc false))], [(1, ⟨false, false, .rows 8⟩), (2, ⟨false, false, .rows 8⟩)], 3⟩
noncomputable def skQE : Sk := ⟨[], [(1, ⟨false, false, .rows 8⟩), (2, ⟨false, false, .rows 8⟩)], 3⟩
noncomputable def LQ (O : FOps) : List (Nat × CS) := [(12, gS (sfG O))]
set_option maxRecDepth 100000 in
theorem okLQ : AllOK Try.prog (LQ fops) := ⟨cSf, trivial⟩
noncomputable def cxQ (O : FOps) : Cx := ⟨Try.prog, O, orcN Try.prog O (LQ O) 8⟩
noncomputable def eqN : Nat := Try.f43.ntmps
noncomputable def onQ (a b : Bool) (t : Nat) : Option Bool := bif Nat.beq t 14 then some a else bif Nat.beq t 26 then some b else none
noncomputable def goQ (O : FOps) (a b : Bool) (sk : Sk) (F : Nat → Int → Nat) (G : Nat → Int → Int) (H : Nat → Int → Nat) (I : Nat → Int → Int) (n m k : Int) : Option (Option XK × List LD × List Bool) :=
  goL (cxQ O) eqN ⟨onQ a b, fun _ => none⟩ (bodyOf Try.f43 4) 3 60 skQ [] sk [.i n, .i m, .i k, .i m, .r (Row H I), .i n, .r (Row F G)]
noncomputable def idx (n m k : Int) : List Bool := [decide (k < n), decide (0 ≤ k ∧ k < n), decide (0 ≤ k ∧ k < n), decide (0 ≤ k ∧ k < m), decide (0 ≤ k ∧ k < m)]
set_option maxRecDepth 100000 in
theorem eq_step (O : FOps) (F : Nat → Int → Nat) (G : Nat → Int → Int) (H : Nat → Int → Nat) (I : Nat → Int → Int) (n m k : Int) : goQ O true false skQ F G H I n m k =
    some (none, [.i n, .i m, .i (IntKind.i64.wrap (k + 1)), .i m, .r (Row H I), .i n, .r (Row F G)], idx n m k ++ [!!(q O F G H I k), flatR (Row H I), flatR (Row F G)]) := by kernel_rfl
set_option maxRecDepth 100000 in
theorem eq_ret (O : FOps) (F : Nat → Int → Nat) (G : Nat → Int → Int) (H : Nat → Int → Nat) (I : Nat → Int → Int) (n m k : Int) : goQ O true true skQR F G H I n m k =
    some (some .ret, [.i m, .r (Row H I), .i n, .r (Row F G)], idx n m k ++ [!(q O F G H I k), flatR (Row H I), flatR (Row F G)]) := by kernel_rfl
set_option maxRecDepth 100000 in
theorem eq_end (O : FOps) (F : Nat → Int → Nat) (G : Nat → Int → Int) (H : Nat → Int → Nat) (I : Nat → Int → Int) (n m k : Int) : goQ O false true skQE F G H I n m k =
    some (some (.exit 0), [.i m, .r (Row H I), .i n, .r (Row F G)], [!decide (k < n), flatR (Row H I), flatR (Row F G)]) := by kernel_rfl
theorem idx_ok {n k : Int} (h0 : 0 ≤ k) (h1 : k < n) : AllT (idx n n k) := by
  have h2 : decide (0 ≤ k ∧ k < n) = true := by simp; omega
  exact AllT.cons (by simpa using h1) (AllT.cons h2 (AllT.cons h2 (AllT.cons h2 (AllT.cons h2 AllT.nil))))
theorem eq_loops (F : Nat → Int → Nat) (G : Nat → Int → Int) (H : Nat → Int → Nat) (I : Nat → Int → Int) (n : Int) (hn : n ≤ 1048576) : ∀ (m : Nat) (k : Int), 0 ≤ k → k + m = n →
    (eqFrom (q fops F G H I) k m = true → Loops (cxQ fops) eqN (fun _ => none) (bodyOf Try.f43 4) 3 60 skQ [.i n, .i n, .i k, .i n, .r (Row H I), .i n, .r (Row F G)] (.exit 0) skQE [.i n, .r (Row H I), .i n, .r (Row F G)]) ∧
    (eqFrom (q fops F G H I) k m = false → Loops (cxQ fops) eqN (fun _ => none) (bodyOf Try.f43 4) 3 60 skQ [.i n, .i n, .i k, .i n, .r (Row H I), .i n, .r (Row F G)] .ret skQR [.i n, .r (Row H I), .i n, .r (Row F G)]) := by
  have fl : AllT [flatR (Row H I), flatR (Row F G)] := AllT.cons (rowK_flat _ _ _) (AllT.cons (rowK_flat _ _ _) AllT.nil)
  intro m
  induction m with
  | zero =>
    intro k hk hkn
    have e : k = n := by omega
    subst e
    refine ⟨fun _ => .done (ts := onQ false true) (ρ := []) (eq_end fops F G H I k k k) (AllT.cons (by simp) fl), fun h => by cases h⟩
  | succ m ih =>
    intro k hk hkn
    have hlt : k < n := by omega
    obtain ⟨i1, i2⟩ := ih (k + 1) (by omega) (by omega)
    have hE : eqFrom (q fops F G H I) k (m + 1) = bif q fops F G H I k then eqFrom (q fops F G H I) (k + 1) m else false := rfl
    rw [hE]
    cases hq : q fops F G H I k with
    | true =>
      have h1 := eq_step fops F G H I n n k
      rw [wrap_succ hk (by omega)] at h1
      have ho : AllT (idx n n k ++ [!!(q fops F G H I k), flatR (Row H I), flatR (Row F G)]) := AllT.app (idx_ok hk hlt) (AllT.cons (by rw [hq]; rfl) fl)
      exact ⟨fun h => .step (ts := onQ true false) (ρ := []) h1 ho (i1 h), fun h => .step (ts := onQ true false) (ρ := []) h1 ho (i2 h)⟩
    | false =>
      refine ⟨fun h => (by cases h), fun _ => .done (ts := onQ true true) (ρ := []) (eq_ret fops F G H I n n k) (AllT.app (idx_ok hk hlt) (AllT.cons (by rw [hq]; rfl) fl))⟩
def PreQ (n m k n1 : Int) (row : Int → List SC) (m1 : Int) (row' : Int → List SC) : Prop :=
  m = n ∧ k = 0 ∧ n1 = n ∧ m1 = n ∧ 0 ≤ n ∧ n ≤ 1048576 ∧ Shape ts row ∧ Shape ts row'
noncomputable def FQ (O : FOps) : List LD → Option (XO × List Bool)
  | [.i n, .i m, .i k, .i m1, .r row', .i n1, .r row] => some ([(.s (!eqFrom (q O (datF row) (datG row) (datF row') (datG row')) 0 n.toNat), .ret, skQR, [.i m, .r row', .i n, .r row]), (.t, .exit 0, skQE, [.i m, .r row', .i n, .r row])], [pB (PreQ n m k n1 row m1 row')])
  | _ => none
noncomputable def LE (O : FOps) : List Ly → Top → Option Outs := orIter (cxQ O) eqN (bodyOf Try.f43 4) (loopL eqN 3 60 skQ [] (FQ O))
set_option maxRecDepth 100000 in
theorem okE : CodeOK Try.prog eqN (.loop (bodyOf Try.f43 4)) (LE fops) := by
  refine orIter_ok (l := LQ fops) okLQ mixed 8 (loopL_ok (cx := cxQ fops) (lp := fun _ => none) (fun ts => body_ok (l := LQ fops) okLQ mixed 8 _ ts) fun p r hr hob => ?_)
  unfold FQ at hr
  split at hr <;> cases hr
  rename_i n m k m1 row' n1 row
  obtain ⟨e1, e2, e3, e4, h0, hm, hs, hs'⟩ := pB_iff.1 hob.head
  obtain ⟨h1, h2⟩ := eq_loops (datF row) (datG row) (datF row') (datG row') n hm n.toNat 0 (Int.le_refl _) (by omega)
  have hs1 : Row (datF row) (datG row) = row := hs.symm
  have hs2 : Row (datF row') (datG row') = row' := hs'.symm
  rw [hs1, hs2] at h1 h2
  rw [e1, e2, e3, e4]
  cases hq : eqFrom (q fops (datF row) (datG row) (datF row') (datG row')) 0 n.toNat with
  | true => exact ⟨_, _, _, by simp [pickX, SB.val], h1 hq⟩
  | false => exact ⟨_, _, _, by simp [pickX, SB.val], h2 hq⟩
/-- The contract of laws.eqWallS. -/
noncomputable def eqS (O : FOps) : CS := roS (canS (inl (cxQ O) Try.f43 ⟨fun _ => none, lpOf [(4, LE O)]⟩))
set_option maxRecDepth 100000 in
theorem cEqS : CallOK Try.prog 43 (eqS fops) := by
  have hb : Try.f43.body.isSome = true := by kernel_rfl
  obtain ⟨c, hc⟩ := Option.isSome_iff_exists.1 hb
  have h1 : (match Try.f43.body with | some c => onceB (loopsIn c) && (match loopAt 4 (loopsIn c) with | some _ => true | none => false) | none => false) = true := by kernel_rfl
  rw [hc] at h1
  simp only [Bool.and_eq_true] at h1
  exact (inlL_of (l := LQ fops) (ls := [(4, LE fops)]) okLQ mixed 8 Try.func43 (by kernel_rfl) (fun _ => none) hc h1.1 ⟨⟨_, bodyOf_at hc h1.2, okE⟩, trivial⟩).can.ro
theorem q_self (F : Nat → Int → Nat) (G : Nat → Int → Int) (m : Nat) : eqFrom (q fops F G F G) 0 m = true := eqFrom_all (fun k => by unfold q; exact by simp [sf_self]) m 0
/-! ### marked -/
noncomputable def mkF (O : FOps) (u : Int) (k : Int) (X : Nat → Int → Nat) (c : Nat) (j : Int) : Nat := bif decide (0 ≤ j) && decide (j < k) then O.ofInt .f32 (wr (u + 8 * j) c) else X c j
noncomputable def mkG (u : Int) (k : Int) (Y : Nat → Int → Int) (c : Nat) (j : Int) : Int := bif decide (0 ≤ j) && decide (j < k) then wr (u + 8 * j) c else Y c j
theorem mkF_zero (O : FOps) (u : Int) (X : Nat → Int → Nat) : mkF O u 0 X = X := by
  funext c j
  unfold mkF
  by_cases h : 0 ≤ j
  · rw [decide_eq_false (by omega : ¬ j < 0), Bool.and_false]; rfl
  · rw [decide_eq_false h]; rfl
theorem mkG_zero (u : Int) (X : Nat → Int → Int) : mkG u 0 X = X := by
  funext c j
  unfold mkG
  by_cases h : 0 ≤ j
  · rw [decide_eq_false (by omega : ¬ j < 0), Bool.and_false]; rfl
  · rw [decide_eq_false h]; rfl
theorem mkF_step {k : Int} (hk : 0 ≤ k) (O : FOps) (u : Int) (X : Nat → Int → Nat) : (fun c j => bif decide (j = k) then O.ofInt .f32 (wr (u + 8 * k) c) else mkF O u k X c j) = mkF O u (k + 1) X := by
  funext c j
  unfold mkF
  by_cases e : j = k
  · subst e
    have h1 : j < j + 1 := by omega
    simp [hk, h1]
  · rw [decide_eq_false e]
    by_cases h : j < k
    · rw [decide_eq_true h, decide_eq_true (by omega : j < k + 1)]; rfl
    · rw [decide_eq_false h, decide_eq_false (by omega : ¬ j < k + 1)]; rfl
theorem mkG_step {k : Int} (hk : 0 ≤ k) (u : Int) (X : Nat → Int → Int) : (fun c j => bif decide (j = k) then wr (u + 8 * k) c else mkG u k X c j) = mkG u (k + 1) X := by
  funext c j
  unfold mkG
  by_cases e : j = k
  · subst e
    have h1 : j < j + 1 := by omega
    simp [hk, h1]
  · rw [decide_eq_false e]
    by_cases h : j < k
    · rw [decide_eq_true h, decide_eq_true (by omega : j < k + 1)]; rfl
    · rw [decide_eq_false h, decide_eq_false (by omega : ¬ j < k + 1)]; rfl
noncomputable def skM : Sk := ⟨[(0, .c (.sl 1 0 8 false)), (1, .c (.int .i64)), (5, .c (.int .i64))], [(1, ⟨true, false, .rows 8⟩)], 2⟩
noncomputable def skME : Sk := ⟨[(1, .c (.int .i64))], [(1, ⟨true, false, .rows 8⟩)], 2⟩
noncomputable def onM (b : Bool) (t : Nat) : Option Bool := bif Nat.beq t 10 then some b else none
def PreM (n u k n1 : Int) (row : Int → List SC) : Prop := k = 0 ∧ n1 = n ∧ 0 ≤ n ∧ n ≤ 1048576 ∧ 0 ≤ u ∧ u ≤ 50000000 ∧ Shape ts row
noncomputable def FM (O : FOps) : List LD → Option (XO × List Bool)
  | [.i n, .i u, .i k, .i n1, .r row] => some ([(.t, .exit 0, skME, [.i (u + 8 * n), .i n, .r (Row (mkF O u n (datF row)) (mkG u n (datG row)))])], [pB (PreM n u k n1 row)])
  | _ => none
noncomputable section
theorem shape_flat {row : Int → List SC} (h : Shape ts row) : flatR row = true := by rw [h]; exact rowK_flat _ _ _
/-- The rows of a copy. -/
def cpR (n : Int) (row : Int → List SC) : Int → List SC := Row (clF n (datF row)) (clG n (datG row))
/-- The rows when they are marked. -/
def mkR (O : FOps) (u n : Int) (row : Int → List SC) : Int → List SC := Row (mkF O u n (datF row)) (mkG u n (datG row))
def okN (n N : Int) (row : Int → List SC) : Bool := pB (N = n ∧ 0 ≤ n ∧ n ≤ 1048576 ∧ Shape ts row)
def okM' (n u N : Int) (row : Int → List SC) : Bool := pB (N = n ∧ 0 ≤ n ∧ n ≤ 1048576 ∧ 0 ≤ u ∧ u ≤ 50000000 ∧ Shape ts row)
def okE' (n N : Int) (row : Int → List SC) (m M : Int) (row' : Int → List SC) : Bool := !decide (n = m) || pB (N = n ∧ M = n ∧ 0 ≤ n ∧ n ≤ 1048576 ∧ Shape ts row ∧ Shape ts row')
def eqR (O : FOps) (n m : Int) (row row' : Int → List SC) : Bool := bif !decide (n = m) then false else bif !eqFrom (q O (datF row) (datG row) (datF row') (datG row')) 0 n.toNat then false else true
theorem eqR_self (n : Int) (row : Int → List SC) : eqR fops n n row row = true := by
  unfold eqR
  rw [decide_eq_true rfl, q_self]
  rfl
def Z0 : Int → List SC := Row (fun _ _ => 0) (fun _ _ => 0)
set_option maxRecDepth 100000 in
theorem to_run (O : FOps) (f w o : Bool) (n N : Int) (row : Int → List SC) : nwS (inl (cxT O) Try.f39 ⟨fun _ => none, lpOf [(3, LT O)]⟩) 2 [.c (.sl 1 0 8 (.s n) f)] [(1, ⟨w, o, .rows 8 N row⟩)] =
    some ⟨.c (.sl 2 0 8 (.s n) true), [(2, some ⟨true, true, .rows 8 n (cpR n row)⟩)], 60, [decide (n = n ∧ 0 ≤ n ∧ n ≤ 100000000), flatR row, flatR Z0, pB (PreT n n 0 N row n Z0)]⟩ := by kernel_rfl
def toH : CS := fun base args rd => match args with
  | [.c (.sl i o es (.s n) _)] => match rd with
    | [(j, ⟨_, _, .rows st N row⟩)] => match Nat.beq base 2 && (Nat.beq i 1 && (Nat.beq o 0 && (Nat.beq es 8 && (Nat.beq j 1 && Nat.beq st 8)))) with
      | true => some ⟨.c (.sl 2 0 8 (.s n) true), [(2, some ⟨true, true, .rows 8 n (cpR n row)⟩)], 60, [okN n N row]⟩
      | false => none
    | _ => none
  | _ => none
set_option maxRecDepth 100000 in
theorem cTo0 : CallOK Try.prog 39 (inl (cxT fops) Try.f39 ⟨fun _ => none, lpOf [(3, LT fops)]⟩) := by
  have hb : Try.f39.body.isSome = true := by kernel_rfl
  obtain ⟨c, hc⟩ := Option.isSome_iff_exists.1 hb
  have h1 : (match Try.f39.body with | some c => onceB (loopsIn c) && (match loopAt 3 (loopsIn c) with | some _ => true | none => false) | none => false) = true := by kernel_rfl
  rw [hc] at h1
  simp only [Bool.and_eq_true] at h1
  exact inlL_of (l := []) (ls := [(3, LT fops)]) trivial mixed 8 Try.func39 (by kernel_rfl) (fun _ => none) hc h1.1 ⟨⟨_, bodyOf_at hc h1.2, okT⟩, trivial⟩
def toC (O : FOps) : CS := orS (canS toH) (inl (cxT O) Try.f39 noH)
set_option maxRecDepth 100000 in
theorem cToC : CallOK Try.prog 39 (toC fops) :=
  (CallOK.hand (H := toH) cTo0.nw fun b args rd e h hob => by
    unfold toH at h
    split at h <;> try (cases h; done)
    rename_i i o es n f
    split at h <;> try (cases h; done)
    rename_i j w o' st N row
    split at h <;> cases h
    rename_i hc
    simp only [Bool.and_eq_true, beqN] at hc
    obtain ⟨rfl, rfl, rfl, rfl, rfl, rfl⟩ := hc
    obtain ⟨rfl, h0, hm, hs⟩ := pB_iff.1 hob.head
    exact ⟨_, to_run fops f w o' N N row, AllT.cons (by simp; omega) (AllT.cons (shape_flat hs) (AllT.cons (rowK_flat _ _ _) (AllT.cons (pB_iff.2 ⟨rfl, rfl, rfl, rfl, h0, hm, hs, rfl⟩) AllT.nil)))⟩).can.or
    (inlN_of (l := []) trivial mixed 8 Try.func39 (by kernel_rfl) (fun _ => none))
def maH (O : FOps) : CS := fun base args rd => match args with
  | [.c (.sl i o es (.s n) _), .c (.int .i64 u)] => match rd with
    | [(j, ⟨true, _, .rows st N row⟩)] => match Nat.beq base 2 && (Nat.beq i 1 && (Nat.beq o 0 && (Nat.beq es 8 && (Nat.beq j 1 && Nat.beq st 8)))) with
      | true => some ⟨.c (.int .i64 (.s (u.val + 8 * n))), [(1, some ⟨true, false, .rows 8 n (mkR O u.val n row)⟩)], 60, [okM' n u.val N row]⟩
      | false => none
    | _ => none
  | _ => none
set_option maxRecDepth 100000 in
theorem eq_run (O : FOps) (f w o f' w' o' : Bool) (n N m M : Int) (row row' : Int → List SC) : roS (inl (cxQ O) Try.f43 ⟨fun _ => none, lpOf [(4, LE O)]⟩) 3 [.c (.sl 2 0 8 (.s n) f), .c (.sl 1 0 8 (.s m) f')] [(1, ⟨w', o', .rows 8 M row'⟩), (2, ⟨w, o, .rows 8 N row⟩)] =
    some ⟨.c (.bool (.s (eqR O n m row row'))), [], 60, gdB (!decide (n = m)) [flatR row', flatR row, pB (PreQ n m 0 N row M row')]⟩ := by kernel_rfl
def eqH (O : FOps) : CS := fun base args rd => match args with
  | [.c (.sl i o es (.s n) _), .c (.sl i' o' es' (.s m) _)] => match rd with
    | [(j', ⟨_, _, .rows st' M row'⟩), (j, ⟨_, _, .rows st N row⟩)] => match Nat.beq base 3 && (Nat.beq i 2 && (Nat.beq o 0 && (Nat.beq es 8 && (Nat.beq j 2 && (Nat.beq st 8 && (Nat.beq i' 1 && (Nat.beq o' 0 && (Nat.beq es' 8 && (Nat.beq j' 1 && Nat.beq st' 8))))))))) with
      | true => some ⟨.c (.bool (.s (eqR O n m row row'))), [], 60, [okE' n N row m M row']⟩
      | false => none
    | _ => none
  | _ => none
set_option maxRecDepth 100000 in
theorem cEq0 : CallOK Try.prog 43 (inl (cxQ fops) Try.f43 ⟨fun _ => none, lpOf [(4, LE fops)]⟩) := by
  have hb : Try.f43.body.isSome = true := by kernel_rfl
  obtain ⟨c, hc⟩ := Option.isSome_iff_exists.1 hb
  have h1 : (match Try.f43.body with | some c => onceB (loopsIn c) && (match loopAt 4 (loopsIn c) with | some _ => true | none => false) | none => false) = true := by kernel_rfl
  rw [hc] at h1
  simp only [Bool.and_eq_true] at h1
  exact inlL_of (l := LQ fops) (ls := [(4, LE fops)]) okLQ mixed 8 Try.func43 (by kernel_rfl) (fun _ => none) hc h1.1 ⟨⟨_, bodyOf_at hc h1.2, okE⟩, trivial⟩
def eqC (O : FOps) : CS := orS (canS (eqH O)) (inl (cxQ O) Try.f43 noH)
set_option maxRecDepth 100000 in
theorem cEqC : CallOK Try.prog 43 (eqC fops) :=
  (CallOK.hand (H := eqH fops) cEq0.ro fun b args rd e h hob => by
    unfold eqH at h
    split at h <;> try (cases h; done)
    rename_i i o es n f i' o' es' m f'
    split at h <;> try (cases h; done)
    rename_i j' w' p' st' M row' j w p st N row
    split at h <;> cases h
    rename_i hc
    simp only [Bool.and_eq_true, beqN] at hc
    obtain ⟨rfl, rfl, rfl, rfl, rfl, rfl, rfl, rfl, rfl, rfl, rfl⟩ := hc
    refine ⟨_, eq_run fops f w p f' w' p' n N m M row row', gdB_ok fun hg => ?_⟩
    have hnm : decide (n = m) = true := by simpa using hg
    have ho := hob.head
    unfold okE' at ho
    rw [hnm] at ho
    obtain ⟨e1, e2, h0, hm, hs, hs'⟩ := pB_iff.1 (show pB _ = true from ho)
    exact AllT.cons (shape_flat hs') (AllT.cons (shape_flat hs) (AllT.cons (pB_iff.2 ⟨(of_decide_eq_true hnm).symm, rfl, e1, e2, h0, hm, hs, hs'⟩) AllT.nil))).can.or
    (inlN_of (l := LQ fops) okLQ mixed 8 Try.func43 (by kernel_rfl) (fun _ => none))
end
end Go.Proofs.Ytaoeigofmfpamaa.SlWall
end

/- Slices of Pane: how they are made, compared and marked. Nothing is assumed. -/
section
namespace Go.Proofs.Ytaoeigofmfpamaa.SlPane
open Go
noncomputable def ts : List KK := [.int .i64, .int .i64, .flt .f32, .flt .f32]
noncomputable abbrev Row (F : Nat → Int → Nat) (G : Nat → Int → Int) : Int → List SC := rowK ts F G
theorem shape_row (F : Nat → Int → Nat) (G : Nat → Int → Int) : Shape ts (Row F G) := by
  unfold Shape
  funext j
  rfl
/-! ### made anew -/
noncomputable def skT : Sk := ⟨[(0, .c (.sl 1 0 4 false)), (3, .c (.sl 2 0 4 true)), (4, .c (.int .i64))], [(1, ⟨false, false, .rows 4⟩), (2, ⟨true, true, .rows 4⟩)], 3⟩
noncomputable def skTE : Sk := ⟨[(3, .c (.sl 2 0 4 true))], [(1, ⟨false, false, .rows 4⟩), (2, ⟨true, true, .rows 4⟩)], 3⟩
noncomputable def cxT (O : FOps) : Cx := ⟨Try.prog, O, orcN Try.prog O [] 8⟩
noncomputable def toN : Nat := Try.f40.ntmps
noncomputable def onT (b : Bool) (t : Nat) : Option Bool := bif Nat.beq t 11 then some b else none
noncomputable def goT (O : FOps) (b : Bool) (sk : Sk) (F : Nat → Int → Nat) (G : Nat → Int → Int) (X : Nat → Int → Nat) (Y : Nat → Int → Int) (n k : Int) : Option (Option XK × List LD × List Bool) :=
  goL (cxT O) toN ⟨onT b, fun _ => none⟩ (bodyOf Try.f40 3) 3 60 skT [] sk [.i n, .i n, .i k, .i n, .r (Row F G), .i n, .r (Row X Y)]
set_option maxRecDepth 100000 in
theorem to_step (O : FOps) (F : Nat → Int → Nat) (G : Nat → Int → Int) (X : Nat → Int → Nat) (Y : Nat → Int → Int) (n k : Int) : goT O true skT F G X Y n k =
    some (none, [.i n, .i n, .i (IntKind.i64.wrap (k + 1)), .i n, .r (Row F G), .i n, .r (Row (fun c j => bif decide (j = k) then F c k else X c j) (fun c j => bif decide (j = k) then G c k else Y c j))],
      [decide (k < n), decide (0 ≤ k ∧ k < n), decide (0 ≤ k ∧ k < n), decide (0 ≤ k ∧ k < n), decide (0 ≤ k ∧ k < n), flatR (Row F G), flatR (Row (fun c j => bif decide (j = k) then F c k else X c j) (fun c j => bif decide (j = k) then G c k else Y c j))]) := by kernel_rfl
set_option maxRecDepth 100000 in
theorem to_end (O : FOps) (F : Nat → Int → Nat) (G : Nat → Int → Int) (X : Nat → Int → Nat) (Y : Nat → Int → Int) (n k : Int) : goT O false skTE F G X Y n k =
    some (some (.exit 0), [.i n, .i n, .r (Row F G), .i n, .r (Row X Y)], [!decide (k < n), flatR (Row F G), flatR (Row X Y)]) := by kernel_rfl
noncomputable def PreT (n m k n1 : Int) (row : Int → List SC) (n2 : Int) (out : Int → List SC) : Prop :=
  m = n ∧ k = 0 ∧ n1 = n ∧ n2 = n ∧ 0 ≤ n ∧ n ≤ 1048576 ∧ Shape ts row ∧ out = Row (fun _ _ => 0) (fun _ _ => 0)
noncomputable def FT : List LD → Option (XO × List Bool)
  | [.i n, .i m, .i k, .i n1, .r row, .i n2, .r out] => some ([(.t, .exit 0, skTE, [.i n, .i n, .r row, .i n, .r (Row (clF n (datF row)) (clG n (datG row)))])], [pB (PreT n m k n1 row n2 out)])
  | _ => none
theorem to_loops (F : Nat → Int → Nat) (G : Nat → Int → Int) (n : Int) (hn : n ≤ 1048576) : ∀ (m : Nat) (k : Int), 0 ≤ k → k + m = n →
    Loops (cxT fops) toN (fun _ => none) (bodyOf Try.f40 3) 3 60 skT [.i n, .i n, .i k, .i n, .r (Row F G), .i n, .r (Row (clF k F) (clG k G))] (.exit 0) skTE [.i n, .i n, .r (Row F G), .i n, .r (Row (clF n F) (clG n G))] := by
  intro m
  induction m with
  | zero =>
    intro k hk hkn
    have e : k = n := by omega
    subst e
    refine .done (ts := onT false) (ρ := []) (to_end fops F G (clF k F) (clG k G) k k) ?_
    refine AllT.cons (by simp) (AllT.cons (rowK_flat _ _ _) (AllT.cons (rowK_flat _ _ _) AllT.nil))
  | succ m ih =>
    intro k hk hkn
    have h1 := to_step fops F G (clF k F) (clG k G) n k
    rw [clF_step hk, clG_step hk, wrap_succ hk (by omega)] at h1
    have hd : decide (k < n) = true := by simp; omega
    have hd2 : decide (0 ≤ k ∧ k < n) = true := by simp; omega
    exact .step (ts := onT true) (ρ := []) h1 (AllT.cons hd (AllT.cons hd2 (AllT.cons hd2 (AllT.cons hd2 (AllT.cons hd2 (AllT.cons (rowK_flat _ _ _) (AllT.cons (rowK_flat _ _ _) AllT.nil))))))) (ih (k + 1) (by omega) (by omega))
noncomputable def LT (O : FOps) : List Ly → Top → Option Outs := orIter (cxT O) toN (bodyOf Try.f40 3) (loopL toN 3 60 skT [] FT)
set_option maxRecDepth 100000 in
theorem okT : CodeOK Try.prog toN (.loop (bodyOf Try.f40 3)) (LT fops) := by
  refine orIter_ok (l := []) trivial mixed 8 (loopL_ok (cx := cxT fops) (lp := fun _ => none) (fun ts => body_ok (l := []) trivial mixed 8 _ ts) fun p r hr hob => ?_)
  unfold FT at hr
  split at hr <;> cases hr
  rename_i n m k n1 row n2 out
  obtain ⟨e1, e2, e3, e4, h0, hm, hs, e5⟩ := pB_iff.1 hob.head
  refine ⟨_, _, _, rfl, ?_⟩
  have h1 := to_loops (datF row) (datG row) n hm n.toNat 0 (Int.le_refl _) (by omega)
  rw [clF_zero, clG_zero] at h1
  rw [e1, e2, e3, e4, e5, hs]
  exact h1
/-- The contract of laws.toPaneS. -/
noncomputable def toS (O : FOps) : CS := canS (inl (cxT O) Try.f40 ⟨fun _ => none, lpOf [(3, LT O)]⟩)
set_option maxRecDepth 100000 in
theorem cTo : CallOK Try.prog 40 (toS fops) := by
  have hb : Try.f40.body.isSome = true := by kernel_rfl
  obtain ⟨c, hc⟩ := Option.isSome_iff_exists.1 hb
  have h1 : (match Try.f40.body with | some c => onceB (loopsIn c) && (match loopAt 3 (loopsIn c) with | some _ => true | none => false) | none => false) = true := by kernel_rfl
  rw [hc] at h1
  simp only [Bool.and_eq_true] at h1
  exact (inlL_of (l := []) (ls := [(3, LT fops)]) trivial mixed 8 Try.func40 (by kernel_rfl) (fun _ => none) hc h1.1 ⟨⟨_, bodyOf_at hc h1.2, okT⟩, trivial⟩).can
/-! ### compared -/
noncomputable def q (O : FOps) (F : Nat → Int → Nat) (G : Nat → Int → Int) (H : Nat → Int → Nat) (I : Nat → Int → Int) (k : Int) : Bool := bif !decide (G 0 k = I 0 k) then false else bif !decide (G 1 k = I 1 k) then false else bif !sf O (O.conv .f32 .f64 (F 2 k)) (O.conv .f32 .f64 (H 2 k)) then false else bif !sf O (O.conv .f32 .f64 (F 3 k)) (O.conv .f32 .f64 (H 3 k)) then false else true
noncomputable def skQ : Sk := ⟨[(0, .c (.sl 2 0 4 false)), (1, .c (.sl 1 0 4 false)), (5, .c (.int .i64))], [(1, ⟨false, false, .rows 4⟩), (2, ⟨false, false, .rows 4⟩)], 3⟩
noncomputable def skQR : Sk := ⟨[(4, .c (.boolc false))], [(1, ⟨false, false, .rows 4⟩), (2, ⟨false, false, .rows 4⟩)], 3⟩
noncomputable def skQE : Sk := ⟨[], [(1, ⟨false, false, .rows 4⟩), (2, ⟨false, false, .rows 4⟩)], 3⟩
noncomputable def LQ (O : FOps) : List (Nat × CS) := [(12, gS (sfG O))]
set_option maxRecDepth 100000 in
theorem okLQ : AllOK Try.prog (LQ fops) := ⟨cSf, trivial⟩
noncomputable def cxQ (O : FOps) : Cx := ⟨Try.prog, O, orcN Try.prog O (LQ O) 8⟩
noncomputable def eqN : Nat := Try.f44.ntmps
noncomputable def onQ (a b : Bool) (t : Nat) : Option Bool := bif Nat.beq t 14 then some a else bif Nat.beq t 26 then some b else none
noncomputable def goQ (O : FOps) (a b : Bool) (sk : Sk) (F : Nat → Int → Nat) (G : Nat → Int → Int) (H : Nat → Int → Nat) (I : Nat → Int → Int) (n m k : Int) : Option (Option XK × List LD × List Bool) :=
  goL (cxQ O) eqN ⟨onQ a b, fun _ => none⟩ (bodyOf Try.f44 4) 3 60 skQ [] sk [.i n, .i m, .i k, .i m, .r (Row H I), .i n, .r (Row F G)]
noncomputable def idx (n m k : Int) : List Bool := [decide (k < n), decide (0 ≤ k ∧ k < n), decide (0 ≤ k ∧ k < n), decide (0 ≤ k ∧ k < m), decide (0 ≤ k ∧ k < m)]
set_option maxRecDepth 100000 in
theorem eq_step (O : FOps) (F : Nat → Int → Nat) (G : Nat → Int → Int) (H : Nat → Int → Nat) (I : Nat → Int → Int) (n m k : Int) : goQ O true false skQ F G H I n m k =
    some (none, [.i n, .i m, .i (IntKind.i64.wrap (k + 1)), .i m, .r (Row H I), .i n, .r (Row F G)], idx n m k ++ [!!(q O F G H I k), flatR (Row H I), flatR (Row F G)]) := by kernel_rfl
set_option maxRecDepth 100000 in
theorem eq_ret (O : FOps) (F : Nat → Int → Nat) (G : Nat → Int → Int) (H : Nat → Int → Nat) (I : Nat → Int → Int) (n m k : Int) : goQ O true true skQR F G H I n m k =
    some (some .ret, [.i m, .r (Row H I), .i n, .r (Row F G)], idx n m k ++ [!(q O F G H I k), flatR (Row H I), flatR (Row F G)]) := by kernel_rfl
set_option maxRecDepth 100000 in
theorem eq_end (O : FOps) (F : Nat → Int → Nat) (G : Nat → Int → Int) (H : Nat → Int → Nat) (I : Nat → Int → Int) (n m k : Int) : goQ O false true skQE F G H I n m k =
    some (some (.exit 0), [.i m, .r (Row H I), .i n, .r (Row F G)], [!decide (k < n), flatR (Row H I), flatR (Row F G)]) := by kernel_rfl
theorem idx_ok {n k : Int} (h0 : 0 ≤ k) (h1 : k < n) : AllT (idx n n k) := by
  have h2 : decide (0 ≤ k ∧ k < n) = true := by simp; omega
  exact AllT.cons (by simpa using h1) (AllT.cons h2 (AllT.cons h2 (AllT.cons h2 (AllT.cons h2 AllT.nil))))
theorem eq_loops (F : Nat → Int → Nat) (G : Nat → Int → Int) (H : Nat → Int → Nat) (I : Nat → Int → Int) (n : Int) (hn : n ≤ 1048576) : ∀ (m : Nat) (k : Int), 0 ≤ k → k + m = n →
    (eqFrom (q fops F G H I) k m = true → Loops (cxQ fops) eqN (fun _ => none) (bodyOf Try.f44 4) 3 60 skQ [.i n, .i n, .i k, .i n, .r (Row H I), .i n, .r (Row F G)] (.exit 0) skQE [.i n, .r (Row H I), .i n, .r (Row F G)]) ∧
    (eqFrom (q fops F G H I) k m = false → Loops (cxQ fops) eqN (fun _ => none) (bodyOf Try.f44 4) 3 60 skQ [.i n, .i n, .i k, .i n, .r (Row H I), .i n, .r (Row F G)] .ret skQR [.i n, .r (Row H I), .i n, .r (Row F G)]) := by
  have fl : AllT [flatR (Row H I), flatR (Row F G)] := AllT.cons (rowK_flat _ _ _) (AllT.cons (rowK_flat _ _ _) AllT.nil)
  intro m
  induction m with
  | zero =>
    intro k hk hkn
    have e : k = n := by omega
    subst e
    refine ⟨fun _ => .done (ts := onQ false true) (ρ := []) (eq_end fops F G H I k k k) (AllT.cons (by simp) fl), fun h => by cases h⟩
  | succ m ih =>
    intro k hk hkn
    have hlt : k < n := by omega
    obtain ⟨i1, i2⟩ := ih (k + 1) (by omega) (by omega)
    have hE : eqFrom (q fops F G H I) k (m + 1) = bif q fops F G H I k then eqFrom (q fops F G H I) (k + 1) m else false := rfl
    rw [hE]
    cases hq : q fops F G H I k with
    | true =>
      have h1 := eq_step fops F G H I n n k
      rw [wrap_succ hk (by omega)] at h1
      have ho : AllT (idx n n k ++ [!!(q fops F G H I k), flatR (Row H I), flatR (Row F G)]) := AllT.app (idx_ok hk hlt) (AllT.cons (by rw [hq]; rfl) fl)
      exact ⟨fun h => .step (ts := onQ true false) (ρ := []) h1 ho (i1 h), fun h => .step (ts := onQ true false) (ρ := []) h1 ho (i2 h)⟩
    | false =>
      refine ⟨fun h => (by cases h), fun _ => .done (ts := onQ true true) (ρ := []) (eq_ret fops F G H I n n k) (AllT.app (idx_ok hk hlt) (AllT.cons (by rw [hq]; rfl) fl))⟩
def PreQ (n m k n1 : Int) (row : Int → List SC) (m1 : Int) (row' : Int → List SC) : Prop :=
  m = n ∧ k = 0 ∧ n1 = n ∧ m1 = n ∧ 0 ≤ n ∧ n ≤ 1048576 ∧ Shape ts row ∧ Shape ts row'
noncomputable def FQ (O : FOps) : List LD → Option (XO × List Bool)
  | [.i n, .i m, .i k, .i m1, .r row', .i n1, .r row] => some ([(.s (!eqFrom (q O (datF row) (datG row) (datF row') (datG row')) 0 n.toNat), .ret, skQR, [.i m, .r row', .i n, .r row]), (.t, .exit 0, skQE, [.i m, .r row', .i n, .r row])], [pB (PreQ n m k n1 row m1 row')])
  | _ => none
noncomputable def LE (O : FOps) : List Ly → Top → Option Outs := orIter (cxQ O) eqN (bodyOf Try.f44 4) (loopL eqN 3 60 skQ [] (FQ O))
set_option maxRecDepth 100000 in
theorem okE : CodeOK Try.prog eqN (.loop (bodyOf Try.f44 4)) (LE fops) := by
  refine orIter_ok (l := LQ fops) okLQ mixed 8 (loopL_ok (cx := cxQ fops) (lp := fun _ => none) (fun ts => body_ok (l := LQ fops) okLQ mixed 8 _ ts) fun p r hr hob => ?_)
  unfold FQ at hr
  split at hr <;> cases hr
  rename_i n m k m1 row' n1 row
  obtain ⟨e1, e2, e3, e4, h0, hm, hs, hs'⟩ := pB_iff.1 hob.head
  obtain ⟨h1, h2⟩ := eq_loops (datF row) (datG row) (datF row') (datG row') n hm n.toNat 0 (Int.le_refl _) (by omega)
  have hs1 : Row (datF row) (datG row) = row := hs.symm
  have hs2 : Row (datF row') (datG row') = row' := hs'.symm
  rw [hs1, hs2] at h1 h2
  rw [e1, e2, e3, e4]
  cases hq : eqFrom (q fops (datF row) (datG row) (datF row') (datG row')) 0 n.toNat with
  | true => exact ⟨_, _, _, by simp [pickX, SB.val], h1 hq⟩
  | false => exact ⟨_, _, _, by simp [pickX, SB.val], h2 hq⟩
/-- The contract of laws.eqPaneS. -/
noncomputable def eqS (O : FOps) : CS := roS (canS (inl (cxQ O) Try.f44 ⟨fun _ => none, lpOf [(4, LE O)]⟩))
set_option maxRecDepth 100000 in
theorem cEqS : CallOK Try.prog 44 (eqS fops) := by
  have hb : Try.f44.body.isSome = true := by kernel_rfl
  obtain ⟨c, hc⟩ := Option.isSome_iff_exists.1 hb
  have h1 : (match Try.f44.body with | some c => onceB (loopsIn c) && (match loopAt 4 (loopsIn c) with | some _ => true | none => false) | none => false) = true := by kernel_rfl
  rw [hc] at h1
  simp only [Bool.and_eq_true] at h1
  exact (inlL_of (l := LQ fops) (ls := [(4, LE fops)]) okLQ mixed 8 Try.func44 (by kernel_rfl) (fun _ => none) hc h1.1 ⟨⟨_, bodyOf_at hc h1.2, okE⟩, trivial⟩).can.ro
theorem q_self (F : Nat → Int → Nat) (G : Nat → Int → Int) (m : Nat) : eqFrom (q fops F G F G) 0 m = true := eqFrom_all (fun k => by unfold q; exact by simp [sf_self]) m 0
/-! ### marked -/
noncomputable def mkF (O : FOps) (u : Int) (k : Int) (X : Nat → Int → Nat) (c : Nat) (j : Int) : Nat := bif decide (0 ≤ j) && decide (j < k) then O.ofInt .f32 (wr (u + 4 * j) c) else X c j
noncomputable def mkG (u : Int) (k : Int) (Y : Nat → Int → Int) (c : Nat) (j : Int) : Int := bif decide (0 ≤ j) && decide (j < k) then wr (u + 4 * j) c else Y c j
theorem mkF_zero (O : FOps) (u : Int) (X : Nat → Int → Nat) : mkF O u 0 X = X := by
  funext c j
  unfold mkF
  by_cases h : 0 ≤ j
  · rw [decide_eq_false (by omega : ¬ j < 0), Bool.and_false]; rfl
  · rw [decide_eq_false h]; rfl
theorem mkG_zero (u : Int) (X : Nat → Int → Int) : mkG u 0 X = X := by
  funext c j
  unfold mkG
  by_cases h : 0 ≤ j
  · rw [decide_eq_false (by omega : ¬ j < 0), Bool.and_false]; rfl
  · rw [decide_eq_false h]; rfl
theorem mkF_step {k : Int} (hk : 0 ≤ k) (O : FOps) (u : Int) (X : Nat → Int → Nat) : (fun c j => bif decide (j = k) then O.ofInt .f32 (wr (u + 4 * k) c) else mkF O u k X c j) = mkF O u (k + 1) X := by
  funext c j
  unfold mkF
  by_cases e : j = k
  · subst e
    have h1 : j < j + 1 := by omega
    simp [hk, h1]
  · rw [decide_eq_false e]
    by_cases h : j < k
    · rw [decide_eq_true h, decide_eq_true (by omega : j < k + 1)]; rfl
    · rw [decide_eq_false h, decide_eq_false (by omega : ¬ j < k + 1)]; rfl
theorem mkG_step {k : Int} (hk : 0 ≤ k) (u : Int) (X : Nat → Int → Int) : (fun c j => bif decide (j = k) then wr (u + 4 * k) c else mkG u k X c j) = mkG u (k + 1) X := by
  funext c j
  unfold mkG
  by_cases e : j = k
  · subst e
    have h1 : j < j + 1 := by omega
    simp [hk, h1]
  · rw [decide_eq_false e]
    by_cases h : j < k
    · rw [decide_eq_true h, decide_eq_true (by omega : j < k + 1)]; rfl
    · rw [decide_eq_false h, decide_eq_false (by omega : ¬ j < k + 1)]; rfl
noncomputable def skM : Sk := ⟨[(0, .c (.sl 1 0 4 false)), (1, .c (.int .i64)), (5, .c (.int .i64))], [(1, ⟨true, false, .rows 4⟩)], 2⟩
noncomputable def skME : Sk := ⟨[(1, .c (.int .i64))], [(1, ⟨true, false, .rows 4⟩)], 2⟩
noncomputable def onM (b : Bool) (t : Nat) : Option Bool := bif Nat.beq t 9 then some b else none
def PreM (n u k n1 : Int) (row : Int → List SC) : Prop := k = 0 ∧ n1 = n ∧ 0 ≤ n ∧ n ≤ 1048576 ∧ 0 ≤ u ∧ u ≤ 50000000 ∧ Shape ts row
noncomputable def FM (O : FOps) : List LD → Option (XO × List Bool)
  | [.i n, .i u, .i k, .i n1, .r row] => some ([(.t, .exit 0, skME, [.i (u + 4 * n), .i n, .r (Row (mkF O u n (datF row)) (mkG u n (datG row)))])], [pB (PreM n u k n1 row)])
  | _ => none
noncomputable section
theorem shape_flat {row : Int → List SC} (h : Shape ts row) : flatR row = true := by rw [h]; exact rowK_flat _ _ _
/-- The rows of a copy. -/
def cpR (n : Int) (row : Int → List SC) : Int → List SC := Row (clF n (datF row)) (clG n (datG row))
/-- The rows when they are marked. -/
def mkR (O : FOps) (u n : Int) (row : Int → List SC) : Int → List SC := Row (mkF O u n (datF row)) (mkG u n (datG row))
def okN (n N : Int) (row : Int → List SC) : Bool := pB (N = n ∧ 0 ≤ n ∧ n ≤ 1048576 ∧ Shape ts row)
def okM' (n u N : Int) (row : Int → List SC) : Bool := pB (N = n ∧ 0 ≤ n ∧ n ≤ 1048576 ∧ 0 ≤ u ∧ u ≤ 50000000 ∧ Shape ts row)
def okE' (n N : Int) (row : Int → List SC) (m M : Int) (row' : Int → List SC) : Bool := !decide (n = m) || pB (N = n ∧ M = n ∧ 0 ≤ n ∧ n ≤ 1048576 ∧ Shape ts row ∧ Shape ts row')
def eqR (O : FOps) (n m : Int) (row row' : Int → List SC) : Bool := bif !decide (n = m) then false else bif !eqFrom (q O (datF row) (datG row) (datF row') (datG row')) 0 n.toNat then false else true
theorem eqR_self (n : Int) (row : Int → List SC) : eqR fops n n row row = true := by
  unfold eqR
  rw [decide_eq_true rfl, q_self]
  rfl
def Z0 : Int → List SC := Row (fun _ _ => 0) (fun _ _ => 0)
set_option maxRecDepth 100000 in
theorem to_run (O : FOps) (f w o : Bool) (n N : Int) (row : Int → List SC) : nwS (inl (cxT O) Try.f40 ⟨fun _ => none, lpOf [(3, LT O)]⟩) 2 [.c (.sl 1 0 4 (.s n) f)] [(1, ⟨w, o, .rows 4 N row⟩)] =
    some ⟨.c (.sl 2 0 4 (.s n) true), [(2, some ⟨true, true, .rows 4 n (cpR n row)⟩)], 60, [decide (n = n ∧ 0 ≤ n ∧ n ≤ 100000000), flatR row, flatR Z0, pB (PreT n n 0 N row n Z0)]⟩ := by kernel_rfl
def toH : CS := fun base args rd => match args with
  | [.c (.sl i o es (.s n) _)] => match rd with
    | [(j, ⟨_, _, .rows st N row⟩)] => match Nat.beq base 2 && (Nat.beq i 1 && (Nat.beq o 0 && (Nat.beq es 4 && (Nat.beq j 1 && Nat.beq st 4)))) with
      | true => some ⟨.c (.sl 2 0 4 (.s n) true), [(2, some ⟨true, true, .rows 4 n (cpR n row)⟩)], 60, [okN n N row]⟩
      | false => none
    | _ => none
  | _ => none
set_option maxRecDepth 100000 in
theorem cTo0 : CallOK Try.prog 40 (inl (cxT fops) Try.f40 ⟨fun _ => none, lpOf [(3, LT fops)]⟩) := by
  have hb : Try.f40.body.isSome = true := by kernel_rfl
  obtain ⟨c, hc⟩ := Option.isSome_iff_exists.1 hb
  have h1 : (match Try.f40.body with | some c => onceB (loopsIn c) && (match loopAt 3 (loopsIn c) with | some _ => true | none => false) | none => false) = true := by kernel_rfl
  rw [hc] at h1
  simp only [Bool.and_eq_true] at h1
  exact inlL_of (l := []) (ls := [(3, LT fops)]) trivial mixed 8 Try.func40 (by kernel_rfl) (fun _ => none) hc h1.1 ⟨⟨_, bodyOf_at hc h1.2, okT⟩, trivial⟩
def toC (O : FOps) : CS := orS (canS toH) (inl (cxT O) Try.f40 noH)
set_option maxRecDepth 100000 in
theorem cToC : CallOK Try.prog 40 (toC fops) :=
  (CallOK.hand (H := toH) cTo0.nw fun b args rd e h hob => by
    unfold toH at h
    split at h <;> try (cases h; done)
    rename_i i o es n f
    split at h <;> try (cases h; done)
    rename_i j w o' st N row
    split at h <;> cases h
    rename_i hc
    simp only [Bool.and_eq_true, beqN] at hc
    obtain ⟨rfl, rfl, rfl, rfl, rfl, rfl⟩ := hc
    obtain ⟨rfl, h0, hm, hs⟩ := pB_iff.1 hob.head
    exact ⟨_, to_run fops f w o' N N row, AllT.cons (by simp; omega) (AllT.cons (shape_flat hs) (AllT.cons (rowK_flat _ _ _) (AllT.cons (pB_iff.2 ⟨rfl, rfl, rfl, rfl, h0, hm, hs, rfl⟩) AllT.nil)))⟩).can.or
    (inlN_of (l := []) trivial mixed 8 Try.func40 (by kernel_rfl) (fun _ => none))
def maH (O : FOps) : CS := fun base args rd => match args with
  | [.c (.sl i o es (.s n) _), .c (.int .i64 u)] => match rd with
    | [(j, ⟨true, _, .rows st N row⟩)] => match Nat.beq base 2 && (Nat.beq i 1 && (Nat.beq o 0 && (Nat.beq es 4 && (Nat.beq j 1 && Nat.beq st 4)))) with
      | true => some ⟨.c (.int .i64 (.s (u.val + 4 * n))), [(1, some ⟨true, false, .rows 4 n (mkR O u.val n row)⟩)], 60, [okM' n u.val N row]⟩
      | false => none
    | _ => none
  | _ => none
set_option maxRecDepth 100000 in
theorem eq_run (O : FOps) (f w o f' w' o' : Bool) (n N m M : Int) (row row' : Int → List SC) : roS (inl (cxQ O) Try.f44 ⟨fun _ => none, lpOf [(4, LE O)]⟩) 3 [.c (.sl 2 0 4 (.s n) f), .c (.sl 1 0 4 (.s m) f')] [(1, ⟨w', o', .rows 4 M row'⟩), (2, ⟨w, o, .rows 4 N row⟩)] =
    some ⟨.c (.bool (.s (eqR O n m row row'))), [], 60, gdB (!decide (n = m)) [flatR row', flatR row, pB (PreQ n m 0 N row M row')]⟩ := by kernel_rfl
def eqH (O : FOps) : CS := fun base args rd => match args with
  | [.c (.sl i o es (.s n) _), .c (.sl i' o' es' (.s m) _)] => match rd with
    | [(j', ⟨_, _, .rows st' M row'⟩), (j, ⟨_, _, .rows st N row⟩)] => match Nat.beq base 3 && (Nat.beq i 2 && (Nat.beq o 0 && (Nat.beq es 4 && (Nat.beq j 2 && (Nat.beq st 4 && (Nat.beq i' 1 && (Nat.beq o' 0 && (Nat.beq es' 4 && (Nat.beq j' 1 && Nat.beq st' 4))))))))) with
      | true => some ⟨.c (.bool (.s (eqR O n m row row'))), [], 60, [okE' n N row m M row']⟩
      | false => none
    | _ => none
  | _ => none
set_option maxRecDepth 100000 in
theorem cEq0 : CallOK Try.prog 44 (inl (cxQ fops) Try.f44 ⟨fun _ => none, lpOf [(4, LE fops)]⟩) := by
  have hb : Try.f44.body.isSome = true := by kernel_rfl
  obtain ⟨c, hc⟩ := Option.isSome_iff_exists.1 hb
  have h1 : (match Try.f44.body with | some c => onceB (loopsIn c) && (match loopAt 4 (loopsIn c) with | some _ => true | none => false) | none => false) = true := by kernel_rfl
  rw [hc] at h1
  simp only [Bool.and_eq_true] at h1
  exact inlL_of (l := LQ fops) (ls := [(4, LE fops)]) okLQ mixed 8 Try.func44 (by kernel_rfl) (fun _ => none) hc h1.1 ⟨⟨_, bodyOf_at hc h1.2, okE⟩, trivial⟩
def eqC (O : FOps) : CS := orS (canS (eqH O)) (inl (cxQ O) Try.f44 noH)
set_option maxRecDepth 100000 in
theorem cEqC : CallOK Try.prog 44 (eqC fops) :=
  (CallOK.hand (H := eqH fops) cEq0.ro fun b args rd e h hob => by
    unfold eqH at h
    split at h <;> try (cases h; done)
    rename_i i o es n f i' o' es' m f'
    split at h <;> try (cases h; done)
    rename_i j' w' p' st' M row' j w p st N row
    split at h <;> cases h
    rename_i hc
    simp only [Bool.and_eq_true, beqN] at hc
    obtain ⟨rfl, rfl, rfl, rfl, rfl, rfl, rfl, rfl, rfl, rfl, rfl⟩ := hc
    refine ⟨_, eq_run fops f w p f' w' p' n N m M row row', gdB_ok fun hg => ?_⟩
    have hnm : decide (n = m) = true := by simpa using hg
    have ho := hob.head
    unfold okE' at ho
    rw [hnm] at ho
    obtain ⟨e1, e2, h0, hm, hs, hs'⟩ := pB_iff.1 (show pB _ = true from ho)
    exact AllT.cons (shape_flat hs') (AllT.cons (shape_flat hs) (AllT.cons (pB_iff.2 ⟨(of_decide_eq_true hnm).symm, rfl, e1, e2, h0, hm, hs, hs'⟩) AllT.nil))).can.or
    (inlN_of (l := LQ fops) okLQ mixed 8 Try.func44 (by kernel_rfl) (fun _ => none))
end
end Go.Proofs.Ytaoeigofmfpamaa.SlPane
end

/- Loops in general: a search, a sum. Nothing is assumed. -/
section
namespace Go.Proofs.Ytaoeigofmfpamaa
open Go
section
variable {cx : Cx} {N : Nat} {lp : Nat → Option (List Ly → Top → Option Outs)} {x : Code} {nx0 mx : Nat} {sk : Sk}
/-- One round leads from 'p' to 'q'. -/
def Goes (cx : Cx) (N : Nat) (lp : Nat → Option (List Ly → Top → Option Outs)) (x : Code) (nx0 mx : Nat) (sk skE : Sk) (p : List LD) (k : Option XK) (q : List LD) : Prop :=
  ∃ ts ρ ob, (goL cx N ⟨ts, lp⟩ x nx0 mx sk ρ skE p = some (k, q, ob) ∨ ∃ j, goJ cx N ⟨ts, lp⟩ x j nx0 mx sk ρ skE p = some (k, q, ob)) ∧ AllT ob
theorem Goes.mk {skE : Sk} {p q : List LD} {k : Option XK} (ts : Nat → Option Bool) {ρ : List (Nat × Nat)} {ob : List Bool} (h : goL cx N ⟨ts, lp⟩ x nx0 mx sk ρ skE p = some (k, q, ob)) (ho : AllT ob) : Goes cx N lp x nx0 mx sk skE p k q := ⟨ts, ρ, ob, .inl h, ho⟩
theorem Goes.mkJ {skE : Sk} {p q : List LD} {k : Option XK} (ts : Nat → Option Bool) (j : Nat) {ρ : List (Nat × Nat)} {ob : List Bool} (h : goJ cx N ⟨ts, lp⟩ x j nx0 mx sk ρ skE p = some (k, q, ob)) (ho : AllT ob) : Goes cx N lp x nx0 mx sk skE p k q := ⟨ts, ρ, ob, .inr ⟨j, h⟩, ho⟩
theorem Goes.step {p q : List LD} (h : Goes cx N lp x nx0 mx sk sk p none q) {xk : XK} {skE : Sk} {pE : List LD} (hl : Loops cx N lp x nx0 mx sk q xk skE pE) : Loops cx N lp x nx0 mx sk p xk skE pE := by
  obtain ⟨ts, ρ, ob, h1 | ⟨j, h1⟩, h2⟩ := h
  · exact .step h1 h2 hl
  · exact .stepJ h1 h2 hl
theorem Goes.done {p q : List LD} {xk : XK} {skE : Sk} (h : Goes cx N lp x nx0 mx sk skE p (some xk) q) : Loops cx N lp x nx0 mx sk p xk skE q := by
  obtain ⟨ts, ρ, ob, h1 | ⟨j, h1⟩, h2⟩ := h
  · exact .done h1 h2
  · exact .doneJ h1 h2
/-- A search: all rounds say yes, or one says no. -/
theorem scan_loops {skE skR : Sk} {D : Int → List LD} {E R : List LD} {q : Int → Bool} {n : Int} {xE xR : XK}
    (h1 : ∀ k, 0 ≤ k → k < n → q k = true → Goes cx N lp x nx0 mx sk sk (D k) none (D (k + 1)))
    (h2 : ∀ k, 0 ≤ k → k < n → q k = false → Goes cx N lp x nx0 mx sk skR (D k) (some xR) R)
    (h3 : Goes cx N lp x nx0 mx sk skE (D n) (some xE) E) : ∀ (m : Nat) (k : Int), 0 ≤ k → k + m = n →
    (eqFrom q k m = true → Loops cx N lp x nx0 mx sk (D k) xE skE E) ∧ (eqFrom q k m = false → Loops cx N lp x nx0 mx sk (D k) xR skR R) := by
  intro m
  induction m with
  | zero =>
    intro k hk hkn
    have e : k = n := by omega
    subst e
    exact ⟨fun _ => h3.done, fun h => by cases h⟩
  | succ m ih =>
    intro k hk hkn
    obtain ⟨i1, i2⟩ := ih (k + 1) (by omega) (by omega)
    have hE : eqFrom q k (m + 1) = bif q k then eqFrom q (k + 1) m else false := rfl
    rw [hE]
    cases hq : q k with
    | true => exact ⟨fun h => (h1 k hk (by omega) hq).step (i1 h), fun h => (h1 k hk (by omega) hq).step (i2 h)⟩
    | false => exact ⟨fun h => (by cases h), fun _ => (h2 k hk (by omega) hq).done⟩
/-- 'f' done 'm' times, from 'k' on. -/
def foldFrom {S : Type} (f : Int → S → S) : Int → Nat → S → S
  | _, 0, s => s
  | k, m + 1, s => foldFrom f (k + 1) m (f k s)
theorem fold_loops {S : Type} {skE : Sk} {D : Int → S → List LD} {E : S → List LD} {f : Int → S → S} {n : Int} {xE : XK}
    (h1 : ∀ k s, 0 ≤ k → k < n → Goes cx N lp x nx0 mx sk sk (D k s) none (D (k + 1) (f k s)))
    (h3 : ∀ s, Goes cx N lp x nx0 mx sk skE (D n s) (some xE) (E s)) : ∀ (m : Nat) (k : Int) (s : S), 0 ≤ k → k + m = n →
    Loops cx N lp x nx0 mx sk (D k s) xE skE (E (foldFrom f k m s)) := by
  intro m
  induction m with
  | zero =>
    intro k s hk hkn
    have e : k = n := by omega
    subst e
    exact (h3 s).done
  | succ m ih =>
    intro k s hk hkn
    exact (h1 k s hk (by omega)).step (ih (k + 1) (f k s) (by omega) (by omega))
end
theorem eqFrom_congr {q q' : Int → Bool} : ∀ (m : Nat) (k : Int), (∀ j, k ≤ j → j < k + m → q j = q' j) → eqFrom q k m = eqFrom q' k m
  | 0, _, _ => rfl
  | m + 1, k, h => by
    show (bif q k then eqFrom q (k + 1) m else false) = (bif q' k then eqFrom q' (k + 1) m else false)
    rw [h k (by omega) (by omega), eqFrom_congr m (k + 1) (fun j h1 h2 => h j (by omega) (by omega))]
theorem eqFrom_at {q : Int → Bool} : ∀ {m : Nat} {k : Int}, eqFrom q k m = true → ∀ j, k ≤ j → j < k + m → q j = true
  | 0, k, _, j, h1, h2 => by omega
  | m + 1, k, h, j, h1, h2 => by
    have h' : (bif q k then eqFrom q (k + 1) m else false) = true := h
    cases hq : q k with
    | false => rw [hq] at h'; cases h'
    | true =>
      rw [hq] at h'
      by_cases e : j = k
      · rw [e]; exact hq
      · exact eqFrom_at (q := q) (m := m) (k := k + 1) h' j (by omega) (by omega)
theorem foldFrom_congr {S : Type} {f g : Int → S → S} : ∀ (m : Nat) (k : Int) (s : S), (∀ j s, k ≤ j → j < k + m → f j s = g j s) → foldFrom f k m s = foldFrom g k m s
  | 0, _, _, _ => rfl
  | m + 1, k, s, h => by
    show foldFrom f (k + 1) m (f k s) = foldFrom g (k + 1) m (g k s)
    rw [h k s (by omega) (by omega), foldFrom_congr m (k + 1) _ (fun j t h1 h2 => h j t (by omega) (by omega))]
theorem AllT.one' {b : Bool} (h : b = true) : AllT [b] := AllT.cons h AllT.nil
theorem AllT.iffApp {l m : List Bool} : AllT (l ++ m) ↔ AllT l ∧ AllT m := ⟨fun h => h.append, fun h => AllT.app h.1 h.2⟩
/-- Within bounds. -/
noncomputable def bd (n k : Int) : Bool := decide (0 ≤ k ∧ k < n)
theorem bd_ok {n k : Int} (h0 : 0 ≤ k) (h1 : k < n) : bd n k = true := by unfold bd; simp; omega
noncomputable def hints (l : List (Nat × Bool)) (t : Nat) : Option Bool := List.rec (motive := fun _ => Option Bool) none (fun p _ ih => bif Nat.beq t p.1 then some p.2 else ih) l
end Go.Proofs.Ytaoeigofmfpamaa
end

/- Flats: their rows and lengths. Nothing is assumed. -/
section
namespace Go.Proofs.Ytaoeigofmfpamaa.Fla
open Go
noncomputable section
/-- The numbers of a flat: its heats, stores, walls and panes. -/
structure FD where
  F0 : Nat → Int → Nat
  F1 : Nat → Int → Nat
  F2 : Nat → Int → Nat
  F3 : Nat → Int → Nat
  G0 : Nat → Int → Int
  G1 : Nat → Int → Int
  G2 : Nat → Int → Int
  G3 : Nat → Int → Int
  n0 : Int
  n1 : Int
  n2 : Int
  n3 : Int
def FD.R0 (x : FD) : Int → List SC := SlFloat32.Row x.F0 x.G0
def FD.R1 (x : FD) : Int → List SC := SlFloat32.Row x.F1 x.G1
def FD.R2 (x : FD) : Int → List SC := SlWall.Row x.F2 x.G2
def FD.R3 (x : FD) : Int → List SC := SlPane.Row x.F3 x.G3
def L0 : List (Nat × CS) := [(73, amtS), (90, amtS), (96, absS)]
set_option maxRecDepth 100000 in
theorem okL0 : AllOK Try.prog L0 := ⟨cAmtI, cAmtL, cAbs, trivial⟩
def cx0 (O : FOps) : Cx := ⟨Try.prog, O, orcN Try.prog O L0 8⟩
def bxA : List KC := [.sl 4 0 1 false, .sl 3 0 1 false, .sl 2 0 8 false, .sl 1 0 4 false]
def sgA (own : Bool) : List (Nat × KS) := [(1, ⟨false, false, .rows 4⟩), (2, ⟨false, false, .rows 8⟩), (3, ⟨false, false, .rows 1⟩), (4, ⟨false, false, .rows 1⟩), (5, ⟨own, own, .cells bxA⟩)]
def daA (x : FD) : List LD := [.i x.n3, .r x.R3, .i x.n2, .r x.R2, .i x.n1, .r x.R1, .i x.n0, .r x.R0, .i x.n0, .i x.n1, .i x.n2, .i x.n3]
def sgB (own : Bool) : List (Nat × KS) := [(1, ⟨false, false, .rows 4⟩), (2, ⟨false, false, .rows 8⟩), (5, ⟨own, own, .cells [.any, .any, .sl 2 0 8 false, .sl 1 0 4 false]⟩)]
def daB (x : FD) : List LD := [.i x.n3, .r x.R3, .i x.n2, .r x.R2, .i x.n2, .i x.n3]
def sgC (own : Bool) : List (Nat × KS) := [(1, ⟨false, false, .rows 4⟩), (5, ⟨own, own, .cells [.any, .any, .any, .sl 1 0 4 false]⟩)]
def daC (x : FD) : List LD := [.i x.n3, .r x.R3, .i x.n3]
def skR (t : Nat) (nx : Nat) : Sk := ⟨[(t, .c (.boolc false))], [], nx⟩
def skN (nx : Nat) : Sk := ⟨[], [], nx⟩
end
end Go.Proofs.Ytaoeigofmfpamaa.Fla
end

/- Walls and panes that are valid. Nothing is assumed. -/
section
namespace Go.Proofs.Ytaoeigofmfpamaa.Fla
open Go
noncomputable section
def hot (O : FOps) (a : Nat) : Bool := bif O.cmp .geq .f32 a 3262119936 then O.cmp .leq .f32 a 1128792064 else false
def sto (O : FOps) (a : Nat) : Bool := bif decide (a < 2139095040) then bif O.cmp .geq .f32 a 1065353216 then O.cmp .leq .f32 a 1176256512 else false else false
def lead (O : FOps) (a : Nat) : Bool := bif O.cmp .geq .f32 a 1015021568 then O.cmp .leq .f32 a 1120403456 else false
def upTo (O : FOps) (m a : Nat) : Bool := bif decide (a < 2139095040) then O.cmp .leq .f32 a m else false
def std (n a b : Int) : Bool := bif decide (0 ≤ a) then bif decide (a < n) then bif decide (-1 ≤ b) then bif decide (b < n) then !decide (a = b) else false else false else false else false
def inS (lo n a : Int) : Bool := bif decide (lo ≤ a) then decide (a ≤ IntKind.i64.wrap (n - 1)) else false
def stdS (n a b : Int) : Bool := bif inS 0 n a then bif inS (-1) n b then !decide (a = b) else false else false
theorem wrap_in {x : Int} (h0 : -9223372036854775808 ≤ x) (h1 : x < 9223372036854775808) : IntKind.i64.wrap x = x := by
  unfold IntKind.wrap
  have hb : IntKind.bits IntKind.i64 = 64 := rfl
  have hs : IntKind.signed IntKind.i64 = true := rfl
  rw [hb, hs]
  by_cases hx : 0 ≤ x
  · have e : x % 2 ^ 64 = x := Int.emod_eq_of_lt hx (by omega)
    rw [e]
    simp; omega
  · have e : x % 2 ^ 64 = x + 18446744073709551616 := by omega
    rw [e]
    simp; omega
theorem inS_eq {lo n : Int} (h0 : 0 ≤ n) (h1 : n ≤ 1048576) (x : Int) : inS lo n x = bif decide (lo ≤ x) then decide (x < n) else false := by
  unfold inS
  rw [wrap_in (by omega) (by omega)]
  have : decide (x ≤ n - 1) = decide (x < n) := decide_eq_decide.2 (by omega)
  rw [this]
theorem stdS_eq {n : Int} (h0 : 0 ≤ n) (h1 : n ≤ 1048576) (a b : Int) : stdS n a b = std n a b := by
  unfold stdS std
  rw [inS_eq h0 h1, inS_eq h0 h1]
  cases decide (0 ≤ a) <;> cases decide (a < n) <;> cases decide (-1 ≤ b) <;> cases decide (b < n) <;> rfl
/-- What is wrong with a wall, its heats apart. -/
def badW (O : FOps) (st : Bool) (l s : Nat) : Bool := bif !st then true else bif !decide (l < 2139095040) then true else bif !lead O l then true else !sto O s
def wallS (O : FOps) (st : Bool) (l s a b c d : Nat) : Bool :=
  bif !hot O a then false else bif !hot O b then false else bif !hot O c then false else bif !hot O d then false else
  bif st then bif decide (l < 2139095040) then bif O.cmp .geq .f32 l 1015021568 then bif O.cmp .leq .f32 l 1120403456 then sto O s else false else false else false else false
def wallI (O : FOps) (st : Bool) (l s a b c d : Nat) : Bool :=
  bif badW O st l s then false else bif !hot O a then false else bif !hot O b then false else bif !hot O c then false else bif !hot O d then false else true
theorem wallS_eq (O : FOps) (st : Bool) (l s a b c d : Nat) : wallS O st l s a b c d = wallI O st l s a b c d := by
  unfold wallS wallI badW lead
  cases st <;> cases hot O a <;> cases hot O b <;> cases hot O c <;> cases hot O d <;> cases decide (l < 2139095040) <;> cases O.cmp .geq .f32 l 1015021568 <;> cases O.cmp .leq .f32 l 1120403456 <;> cases sto O s <;> rfl
def badP (O : FOps) (st : Bool) (l s : Nat) : Bool := bif !st then true else bif !upTo O 1120403456 l then true else !upTo O 1092616192 s
def paneS (O : FOps) (st : Bool) (l s : Nat) : Bool := bif st then bif decide (l < 2139095040) then bif O.cmp .leq .f32 l 1120403456 then upTo O 1092616192 s else false else false else false
theorem paneS_eq (O : FOps) (st : Bool) (l s : Nat) : paneS O st l s = !badP O st l s := by
  unfold paneS badP
  unfold upTo
  cases st <;> cases decide (l < 2139095040) <;> cases O.cmp .leq .f32 l 1120403456 <;> cases decide (s < 2139095040) <;> cases O.cmp .leq .f32 s 1092616192 <;> rfl
def wallG (O : FOps) : List SV → Option SV
  | [.a [.int .i64 (.s x), .int .i64 (.s y), .flt .f32 l, .flt .f32 s, .flt .f32 a, .flt .f32 b, .flt .f32 c, .flt .f32 d], .c (.int .i64 (.s n))] => some (.c (.bool (.s (wallS O (stdS n x y) l s a b c d))))
  | _ => none
def paneG (O : FOps) : List SV → Option SV
  | [.a [.int .i64 (.s x), .int .i64 (.s y), .flt .f32 l, .flt .f32 s], .c (.int .i64 (.s n))] => some (.c (.bool (.s (paneS O (stdS n x y) l s))))
  | _ => none
set_option maxRecDepth 100000 in
theorem cWall : CallOK Try.prog 65 (gQ [.p 8, .v] (wallG fops)) :=
  gQ_of2 (inlN_of (l := L0) okL0 mixed 8 Try.func65 (by kernel_rfl) (fun _ => none)) fun dl r E hG hv => by
    unfold wallG at hG
    split at hG <;> cases hG
    rename_i x y l s a b c d n
    have h : ∀ O : FOps, rE 2 (inl (cx0 O) Try.f65 ⟨fun _ => none, fun _ => none⟩ 2 [.c (.ptr 1 0), .c (.int .i64 (.s n))] [(1, ⟨false, false, .cells [.int .i64 (.s x), .int .i64 (.s y), .flt .f32 l, .flt .f32 s, .flt .f32 a, .flt .f32 b, .flt .f32 c, .flt .f32 d]⟩)]) = some (.c (.bool (.s (wallS O (stdS n x y) l s a b c d))), []) := fun O => by kernel_rfl
    exact ⟨_, _, h fops, rfl, AllT.nil, fun _ _ h => h⟩
set_option maxRecDepth 100000 in
theorem cPane : CallOK Try.prog 66 (gQ [.p 4, .v] (paneG fops)) :=
  gQ_of2 (inlN_of (l := L0) okL0 mixed 8 Try.func66 (by kernel_rfl) (fun _ => none)) fun dl r E hG hv => by
    unfold paneG at hG
    split at hG <;> cases hG
    rename_i x y l s n
    have h : ∀ O : FOps, rE 2 (inl (cx0 O) Try.f66 ⟨fun _ => none, fun _ => none⟩ 2 [.c (.ptr 1 0), .c (.int .i64 (.s n))] [(1, ⟨false, false, .cells [.int .i64 (.s x), .int .i64 (.s y), .flt .f32 l, .flt .f32 s]⟩)]) = some (.c (.bool (.s (paneS O (stdS n x y) l s))), []) := fun O => by kernel_rfl
    exact ⟨_, _, h fops, rfl, AllT.nil, fun _ _ h => h⟩
def L1 (O : FOps) : List (Nat × CS) := (65, gQ [.p 8, .v] (wallG O)) :: (66, gQ [.p 4, .v] (paneG O)) :: L0
set_option maxRecDepth 100000 in
theorem okL1 : AllOK Try.prog (L1 fops) := ⟨cWall, cPane, okL0⟩
def cx1 (O : FOps) : Cx := ⟨Try.prog, O, orcN Try.prog O (L1 O) 8⟩
end
end Go.Proofs.Ytaoeigofmfpamaa.Fla
end

/- Whether a flat is valid, with any numbers of rooms, walls and panes. Nothing is assumed. -/
section
namespace Go.Proofs.Ytaoeigofmfpamaa.Fla
open Go
noncomputable section
noncomputable def t1 (O : FOps) (F0 F1 : Nat → Int → Nat) (k : Int) : Bool := bif !hot O (F0 0 k) then true else !sto O (F1 0 k)
noncomputable def q1 (O : FOps) (F0 F1 : Nat → Int → Nat) (k : Int) : Bool := !t1 O F0 F1 k
noncomputable def sd (n : Int) (G : Nat → Int → Int) (k : Int) : Bool := std n (G 0 k) (G 1 k)
noncomputable def sdS (n : Int) (G : Nat → Int → Int) (k : Int) : Bool := stdS n (G 0 k) (G 1 k)
noncomputable def bW (O : FOps) (n : Int) (F : Nat → Int → Nat) (G : Nat → Int → Int) (k : Int) : Bool := badW O (sd n G k) (F 2 k) (F 3 k)
noncomputable def q2 (O : FOps) (n : Int) (F : Nat → Int → Nat) (G : Nat → Int → Int) (k : Int) : Bool := wallI O (sd n G k) (F 2 k) (F 3 k) (F 4 k) (F 5 k) (F 6 k) (F 7 k)
noncomputable def q2S (O : FOps) (n : Int) (F : Nat → Int → Nat) (G : Nat → Int → Int) (k : Int) : Bool := wallS O (sdS n G k) (F 2 k) (F 3 k) (F 4 k) (F 5 k) (F 6 k) (F 7 k)
noncomputable def bP (O : FOps) (n : Int) (F : Nat → Int → Nat) (G : Nat → Int → Int) (k : Int) : Bool := badP O (sd n G k) (F 2 k) (F 3 k)
noncomputable def q3 (O : FOps) (n : Int) (F : Nat → Int → Nat) (G : Nat → Int → Int) (k : Int) : Bool := !bP O n F G k
noncomputable def q3S (O : FOps) (n : Int) (F : Nat → Int → Nat) (G : Nat → Int → Int) (k : Int) : Bool := paneS O (sdS n G k) (F 2 k) (F 3 k)
theorem q2S_eq {n : Int} (h0 : 0 ≤ n) (h1 : n ≤ 1048576) (O : FOps) (F : Nat → Int → Nat) (G : Nat → Int → Int) (k : Int) : q2S O n F G k = q2 O n F G k := by
  unfold q2S q2 sdS sd
  rw [stdS_eq h0 h1, wallS_eq]
theorem q3S_eq {n : Int} (h0 : 0 ≤ n) (h1 : n ≤ 1048576) (O : FOps) (F : Nat → Int → Nat) (G : Nat → Int → Int) (k : Int) : q3S O n F G k = q3 O n F G k := by
  unfold q3S q3 bP sdS sd
  rw [stdS_eq h0 h1, paneS_eq]
noncomputable def hd3 (n k : Int) : List Bool := [decide (k < n), bd n k, bd n k]
theorem hd3_ok {n k : Int} (h0 : 0 ≤ k) (h1 : k < n) : AllT (hd3 n k) := AllT.cons (by simpa using h1) (AllT.cons (bd_ok h0 h1) (AllT.one' (bd_ok h0 h1)))
noncomputable def x1 (O : FOps) (F0 : Nat → Int → Nat) (n k : Int) : List Bool := gdB (!hot O (F0 0 k)) [bd n k, bd n k]
theorem x1_ok (O : FOps) (F0 : Nat → Int → Nat) {n k : Int} (h0 : 0 ≤ k) (h1 : k < n) : AllT (x1 O F0 n k) := gdB_ok fun _ => AllT.cons (bd_ok h0 h1) (AllT.one' (bd_ok h0 h1))
theorem FD.f0 (x : FD) : flatR x.R0 = true := rowK_flat _ _ _
theorem FD.f1 (x : FD) : flatR x.R1 = true := rowK_flat _ _ _
theorem FD.f2 (x : FD) : flatR x.R2 = true := rowK_flat _ _ _
theorem FD.f3 (x : FD) : flatR x.R3 = true := rowK_flat _ _ _

/-! ### impl.ValidFlat -/
noncomputable def NI : Nat := Try.f41.ntmps
noncomputable def I1 : Sk := ⟨[(1, .c (.ptr 5 0)), (3, .c (.int .i64)), (39, .c (.int .i64)), (40, .c (.int .i64))], sgA true, 6⟩
noncomputable def I1E : Sk := ⟨[(1, .c (.ptr 5 0)), (3, .c (.int .i64))], sgB true, 6⟩
noncomputable def I2 : Sk := ⟨[(1, .c (.ptr 5 0)), (3, .c (.int .i64)), (61, .c (.sl 2 0 8 false)), (62, .c (.int .i64)), (63, .c (.int .i64))], sgB true, 60⟩
noncomputable def I2E : Sk := ⟨[(1, .c (.ptr 5 0)), (3, .c (.int .i64))], sgC true, 60⟩
noncomputable def I3 : Sk := ⟨[(3, .c (.int .i64)), (103, .c (.sl 1 0 4 false)), (104, .c (.int .i64)), (105, .c (.int .i64))], [(1, ⟨false, false, .rows 4⟩)], 120⟩
noncomputable def goI1 (O : FOps) (h : List (Nat × Bool)) (s : Sk) (x : FD) (k : Int) : Option (Option XK × List LD × List Bool) := goL (cx0 O) NI ⟨hints h, fun _ => none⟩ (bodyOf Try.f41 5) 6 60 I1 [] s (.i x.n0 :: .i x.n0 :: .i k :: daA x)
noncomputable def goI2 (O : FOps) (h : List (Nat × Bool)) (s : Sk) (x : FD) (k : Int) : Option (Option XK × List LD × List Bool) := goL (cx0 O) NI ⟨hints h, fun _ => none⟩ (bodyOf Try.f41 11) 60 120 I2 [] s (.i x.n0 :: .i x.n2 :: .i x.n2 :: .i k :: daB x)
noncomputable def goI3 (O : FOps) (h : List (Nat × Bool)) (s : Sk) (x : FD) (k : Int) : Option (Option XK × List LD × List Bool) := goL (cx0 O) NI ⟨hints h, fun _ => none⟩ (bodyOf Try.f41 23) 120 180 I3 [] s ([.i x.n0, .i x.n3, .i x.n3, .i k, .i x.n3, .r x.R3])
set_option maxRecDepth 100000 in
theorem r1aI (O : FOps) (x : FD) (k : Int) : goI1 O [(41, true), (58, false)] I1 x k = some (none, .i x.n0 :: .i x.n0 :: .i (IntKind.i64.wrap (k + 1)) :: daA x, hd3 x.n0 k ++ (x1 O x.F0 x.n1 k ++ [!t1 O x.F0 x.F1 k, flatR x.R3, flatR x.R2, flatR x.R1, flatR x.R0])) := by kernel_rfl
set_option maxRecDepth 100000 in
theorem r1bI (O : FOps) (x : FD) (k : Int) : goI1 O [(41, true), (58, true)] (skR 2 6) x k = some (some .ret, [], hd3 x.n0 k ++ (x1 O x.F0 x.n1 k ++ [t1 O x.F0 x.F1 k])) := by kernel_rfl
set_option maxRecDepth 100000 in
theorem r1eI (O : FOps) (x : FD) (k : Int) : goI1 O [(41, false)] I1E x k = some (some (.exit 0), .i x.n0 :: daB x, [!decide (k < x.n0), flatR x.R3, flatR x.R2]) := by kernel_rfl
set_option maxRecDepth 100000 in
theorem r2eI (O : FOps) (x : FD) (k : Int) : goI2 O [(64, false)] I2E x k = some (some (.exit 2), .i x.n0 :: daC x, [!decide (k < x.n2), flatR x.R3]) := by kernel_rfl
set_option maxRecDepth 100000 in
theorem r3eI (O : FOps) (x : FD) (k : Int) : goI3 O [(106, false)] (skN 120) x k = some (some (.exit 6), [], [!decide (k < x.n3)]) := by kernel_rfl

def goJI2 (O : FOps) (x : FD) (k : Int) (j : Nat) : Option (Option XK × List LD × List Bool) := goJ (cx0 O) NI ⟨hints [(64, true), (91, false)], fun _ => none⟩ (bodyOf Try.f41 11) j 60 120 I2 [] (skR 2 60) (.i x.n0 :: .i x.n2 :: .i x.n2 :: .i k :: daB x)
set_option maxRecDepth 100000 in
theorem r2aI (O : FOps) (x : FD) (k : Int) : goI2 O [(64, true), (91, false), (99, false)] I2 x k = some (none, .i x.n0 :: .i x.n2 :: .i x.n2 :: .i (IntKind.i64.wrap (k + 1)) :: daB x, hd3 x.n2 k ++ [!bW O x.n0 x.F2 x.G2 k, !!hot O (x.F2 4 k), !!hot O (x.F2 5 k), !!hot O (x.F2 6 k), !!hot O (x.F2 7 k), flatR x.R3, flatR x.R2]) := by kernel_rfl
set_option maxRecDepth 100000 in
theorem r2bI (O : FOps) (x : FD) (k : Int) : goI2 O [(64, true), (91, true)] (skR 2 60) x k = some (some .ret, [], hd3 x.n2 k ++ [bW O x.n0 x.F2 x.G2 k]) := by kernel_rfl

set_option maxRecDepth 100000 in
theorem r2j0I (O : FOps) (x : FD) (k : Int) : goJI2 O x k 0 = some (some .ret, [], hd3 x.n2 k ++ [!bW O x.n0 x.F2 x.G2 k, !hot O (x.F2 4 k)]) := by kernel_rfl

set_option maxRecDepth 100000 in
theorem r2j1I (O : FOps) (x : FD) (k : Int) : goJI2 O x k 1 = some (some .ret, [], hd3 x.n2 k ++ [!bW O x.n0 x.F2 x.G2 k, !!hot O (x.F2 4 k), !hot O (x.F2 5 k)]) := by kernel_rfl

set_option maxRecDepth 100000 in
theorem r2j2I (O : FOps) (x : FD) (k : Int) : goJI2 O x k 2 = some (some .ret, [], hd3 x.n2 k ++ [!bW O x.n0 x.F2 x.G2 k, !!hot O (x.F2 4 k), !!hot O (x.F2 5 k), !hot O (x.F2 6 k)]) := by kernel_rfl

set_option maxRecDepth 100000 in
theorem r2j3I (O : FOps) (x : FD) (k : Int) : goJI2 O x k 3 = some (some .ret, [], hd3 x.n2 k ++ [!bW O x.n0 x.F2 x.G2 k, !!hot O (x.F2 4 k), !!hot O (x.F2 5 k), !!hot O (x.F2 6 k), !hot O (x.F2 7 k)]) := by kernel_rfl

set_option maxRecDepth 100000 in
theorem r3aI (O : FOps) (x : FD) (k : Int) : goI3 O [(106, true), (127, false)] I3 x k = some (none, [.i x.n0, .i x.n3, .i x.n3, .i (IntKind.i64.wrap (k + 1)), .i x.n3, .r x.R3], hd3 x.n3 k ++ [!bP O x.n0 x.F3 x.G3 k, flatR x.R3]) := by kernel_rfl
set_option maxRecDepth 100000 in
theorem r3bI (O : FOps) (x : FD) (k : Int) : goI3 O [(106, true), (127, true)] (skR 2 120) x k = some (some .ret, [], hd3 x.n3 k ++ [bP O x.n0 x.F3 x.G3 k]) := by kernel_rfl

/-! ### spec.l04Ok -/
noncomputable def NS : Nat := Try.f37.ntmps
noncomputable def S1 : Sk := ⟨[(0, .c (.ptr 5 0)), (3, .c (.int .i64)), (4, .c (.int .i64))], sgA false, 6⟩
noncomputable def S1E : Sk := ⟨[(0, .c (.ptr 5 0)), (3, .c (.int .i64))], sgB false, 6⟩
noncomputable def S2 : Sk := ⟨[(0, .c (.ptr 5 0)), (3, .c (.int .i64)), (5, .c (.int .i64))], sgB false, 60⟩
noncomputable def S2E : Sk := ⟨[(0, .c (.ptr 5 0)), (3, .c (.int .i64))], sgC false, 60⟩
noncomputable def S3 : Sk := ⟨[(0, .c (.ptr 5 0)), (3, .c (.int .i64)), (6, .c (.int .i64))], sgC false, 120⟩
noncomputable def goS1 (O : FOps) (h : List (Nat × Bool)) (s : Sk) (x : FD) (k : Int) : Option (Option XK × List LD × List Bool) := goL (cx1 O) NS ⟨hints h, fun _ => none⟩ (bodyOf Try.f37 5) 6 60 S1 [] s (.i x.n0 :: .i k :: daA x)
noncomputable def goS2 (O : FOps) (h : List (Nat × Bool)) (s : Sk) (x : FD) (k : Int) : Option (Option XK × List LD × List Bool) := goL (cx1 O) NS ⟨hints h, fun _ => none⟩ (bodyOf Try.f37 10) 60 120 S2 [] s (.i x.n0 :: .i k :: daB x)
noncomputable def goS3 (O : FOps) (h : List (Nat × Bool)) (s : Sk) (x : FD) (k : Int) : Option (Option XK × List LD × List Bool) := goL (cx1 O) NS ⟨hints h, fun _ => none⟩ (bodyOf Try.f37 15) 120 180 S3 [] s (.i x.n0 :: .i k :: daC x)
set_option maxRecDepth 100000 in
theorem r1aS (O : FOps) (x : FD) (k : Int) : goS1 O [(46, true), (68, false)] S1 x k = some (none, .i x.n0 :: .i (IntKind.i64.wrap (k + 1)) :: daA x, hd3 x.n0 k ++ (x1 O x.F0 x.n1 k ++ [!t1 O x.F0 x.F1 k, flatR x.R3, flatR x.R2, flatR x.R1, flatR x.R0])) := by kernel_rfl
set_option maxRecDepth 100000 in
theorem r1bS (O : FOps) (x : FD) (k : Int) : goS1 O [(46, true), (68, true)] (skR 2 6) x k = some (some .ret, [], hd3 x.n0 k ++ (x1 O x.F0 x.n1 k ++ [t1 O x.F0 x.F1 k])) := by kernel_rfl
set_option maxRecDepth 100000 in
theorem r1eS (O : FOps) (x : FD) (k : Int) : goS1 O [(46, false)] S1E x k = some (some (.exit 0), .i x.n0 :: daB x, [!decide (k < x.n0), flatR x.R3, flatR x.R2]) := by kernel_rfl
set_option maxRecDepth 100000 in
theorem r2eS (O : FOps) (x : FD) (k : Int) : goS2 O [(75, false)] S2E x k = some (some (.exit 2), .i x.n0 :: daC x, [!decide (k < x.n2), flatR x.R3]) := by kernel_rfl
set_option maxRecDepth 100000 in
theorem r3eS (O : FOps) (x : FD) (k : Int) : goS3 O [(93, false)] (skN 120) x k = some (some (.exit 4), [], [!decide (k < x.n3)]) := by kernel_rfl

set_option maxRecDepth 100000 in
theorem r2aS (O : FOps) (x : FD) (k : Int) : goS2 O [(75, true), (86, false)] S2 x k = some (none, .i x.n0 :: .i (IntKind.i64.wrap (k + 1)) :: daB x, hd3 x.n2 k ++ [!!q2S O x.n0 x.F2 x.G2 k, flatR x.R3, flatR x.R2]) := by kernel_rfl
set_option maxRecDepth 100000 in
theorem r2bS (O : FOps) (x : FD) (k : Int) : goS2 O [(75, true), (86, true)] (skR 2 60) x k = some (some .ret, [], hd3 x.n2 k ++ [!q2S O x.n0 x.F2 x.G2 k]) := by kernel_rfl
set_option maxRecDepth 100000 in
theorem r3aS (O : FOps) (x : FD) (k : Int) : goS3 O [(93, true), (104, false)] S3 x k = some (none, .i x.n0 :: .i (IntKind.i64.wrap (k + 1)) :: daC x, hd3 x.n3 k ++ [!!q3S O x.n0 x.F3 x.G3 k, flatR x.R3]) := by kernel_rfl
set_option maxRecDepth 100000 in
theorem r3bS (O : FOps) (x : FD) (k : Int) : goS3 O [(93, true), (104, true)] (skR 2 120) x k = some (some .ret, [], hd3 x.n3 k ++ [!q3S O x.n0 x.F3 x.G3 k]) := by kernel_rfl

theorem nt {b : Bool} (h : b = false) : (!b) = true := by rw [h]; rfl
theorem nn {b : Bool} (h : b = true) : (!!b) = true := by rw [h]; rfl
theorem wallI_true {O : FOps} {st : Bool} {l s a b c d : Nat} (h : wallI O st l s a b c d = true) : badW O st l s = false ∧ hot O a = true ∧ hot O b = true ∧ hot O c = true ∧ hot O d = true := by
  revert h
  unfold wallI
  cases badW O st l s <;> cases hot O a <;> cases hot O b <;> cases hot O c <;> cases hot O d <;> simp
theorem wallI_false {O : FOps} {st : Bool} {l s a b c d : Nat} (h : wallI O st l s a b c d = false) (h0 : badW O st l s = false) : hot O a = false ∨ (hot O a = true ∧ hot O b = false) ∨ (hot O a = true ∧ hot O b = true ∧ hot O c = false) ∨ (hot O a = true ∧ hot O b = true ∧ hot O c = true ∧ hot O d = false) := by
  revert h
  unfold wallI
  rw [h0]
  cases hot O a <;> cases hot O b <;> cases hot O c <;> cases hot O d <;> simp
/-- The memory that a flat leads to is as its parts say. -/
def Okd (N3 N2 N1 N0 n0 n1 n2 n3 : Int) (r0 r1 r2 r3 : Int → List SC) : Prop :=
  N0 = n0 ∧ N1 = n1 ∧ N2 = n2 ∧ N3 = n3 ∧ 0 ≤ n0 ∧ n0 ≤ 1048576 ∧ 0 ≤ n2 ∧ n2 ≤ 1048576 ∧ 0 ≤ n3 ∧ n3 ≤ 1048576 ∧ Shape SlFloat32.ts r0 ∧ Shape SlFloat32.ts r1 ∧ Shape SlWall.ts r2 ∧ Shape SlPane.ts r3

/-! ### the loops of impl.ValidFlat -/
theorem lo1I (x : FD) (h1 : x.n1 = x.n0) (hn : x.n0 ≤ 1048576) : ∀ (m : Nat) (k : Int), 0 ≤ k → k + m = x.n0 →
    (eqFrom (q1 fops x.F0 x.F1) k m = true → Loops (cx0 fops) NI (fun _ => none) (bodyOf Try.f41 5) 6 60 I1 (.i x.n0 :: .i x.n0 :: .i k :: daA x) (.exit 0) I1E (.i x.n0 :: daB x)) ∧
    (eqFrom (q1 fops x.F0 x.F1) k m = false → Loops (cx0 fops) NI (fun _ => none) (bodyOf Try.f41 5) 6 60 I1 (.i x.n0 :: .i x.n0 :: .i k :: daA x) .ret (skR 2 6) []) := by
  refine scan_loops (D := fun k => .i x.n0 :: .i x.n0 :: .i k :: daA x) (n := x.n0) (fun k hk hlt hq => ?_) (fun k hk hlt hq => ?_) ?_
  · have r := r1aI fops x k
    rw [wrap_succ hk (by omega)] at r
    have ht : t1 fops x.F0 x.F1 k = false := by unfold q1 at hq; simpa using hq
    exact .mk _ (ρ := []) r (AllT.app (hd3_ok hk hlt) (AllT.app (x1_ok fops x.F0 hk (by omega)) (AllT.cons (by rw [ht]; rfl) (AllT.cons x.f3 (AllT.cons x.f2 (AllT.cons x.f1 (AllT.one' x.f0)))))))
  · have ht : t1 fops x.F0 x.F1 k = true := by unfold q1 at hq; simpa using hq
    exact .mk _ (ρ := []) (r1bI fops x k) (AllT.app (hd3_ok hk hlt) (AllT.app (x1_ok fops x.F0 hk (by omega)) (AllT.one' ht)))
  · exact .mk _ (ρ := []) (r1eI fops x x.n0) (AllT.cons (by simp) (AllT.cons x.f3 (AllT.one' x.f2)))

theorem lo2I (x : FD) (hn : x.n2 ≤ 1048576) : ∀ (m : Nat) (k : Int), 0 ≤ k → k + m = x.n2 →
    (eqFrom (q2 fops x.n0 x.F2 x.G2) k m = true → Loops (cx0 fops) NI (fun _ => none) (bodyOf Try.f41 11) 60 120 I2 (.i x.n0 :: .i x.n2 :: .i x.n2 :: .i k :: daB x) (.exit 2) I2E (.i x.n0 :: daC x)) ∧
    (eqFrom (q2 fops x.n0 x.F2 x.G2) k m = false → Loops (cx0 fops) NI (fun _ => none) (bodyOf Try.f41 11) 60 120 I2 (.i x.n0 :: .i x.n2 :: .i x.n2 :: .i k :: daB x) .ret (skR 2 60) []) := by
  refine scan_loops (D := fun k => .i x.n0 :: .i x.n2 :: .i x.n2 :: .i k :: daB x) (n := x.n2) (fun k hk hlt hq => ?_) (fun k hk hlt hq => ?_) ?_
  · have r := r2aI fops x k
    rw [wrap_succ hk (by omega)] at r
    have hq' : wallI fops (sd x.n0 x.G2 k) (x.F2 2 k) (x.F2 3 k) (x.F2 4 k) (x.F2 5 k) (x.F2 6 k) (x.F2 7 k) = true := hq
    obtain ⟨w0, w1, w2, w3, w4⟩ := wallI_true hq'
    exact .mk _ (ρ := []) r (AllT.app (hd3_ok hk hlt) (AllT.cons (nt w0) (AllT.cons (nn w1) (AllT.cons (nn w2) (AllT.cons (nn w3) (AllT.cons (nn w4) (AllT.cons x.f3 (AllT.one' x.f2))))))))
  · have hq' : wallI fops (sd x.n0 x.G2 k) (x.F2 2 k) (x.F2 3 k) (x.F2 4 k) (x.F2 5 k) (x.F2 6 k) (x.F2 7 k) = false := hq
    cases w0 : bW fops x.n0 x.F2 x.G2 k with
    | true => exact .mk _ (ρ := []) (r2bI fops x k) (AllT.app (hd3_ok hk hlt) (AllT.one' w0))
    | false =>
      have w0' : badW fops (sd x.n0 x.G2 k) (x.F2 2 k) (x.F2 3 k) = false := w0
      rcases wallI_false hq' w0' with h | ⟨a, h⟩ | ⟨a, b, h⟩ | ⟨a, b, c, h⟩
      · exact .mkJ _ 0 (ρ := []) (r2j0I fops x k) (AllT.app (hd3_ok hk hlt) (AllT.cons (nt w0) (AllT.one' (nt h))))
      · exact .mkJ _ 1 (ρ := []) (r2j1I fops x k) (AllT.app (hd3_ok hk hlt) (AllT.cons (nt w0) (AllT.cons (nn a) (AllT.one' (nt h)))))
      · exact .mkJ _ 2 (ρ := []) (r2j2I fops x k) (AllT.app (hd3_ok hk hlt) (AllT.cons (nt w0) (AllT.cons (nn a) (AllT.cons (nn b) (AllT.one' (nt h))))))
      · exact .mkJ _ 3 (ρ := []) (r2j3I fops x k) (AllT.app (hd3_ok hk hlt) (AllT.cons (nt w0) (AllT.cons (nn a) (AllT.cons (nn b) (AllT.cons (nn c) (AllT.one' (nt h)))))))
  · exact .mk _ (ρ := []) (r2eI fops x x.n2) (AllT.cons (by simp) (AllT.one' x.f3))
theorem lo3I (x : FD) (hn : x.n3 ≤ 1048576) : ∀ (m : Nat) (k : Int), 0 ≤ k → k + m = x.n3 →
    (eqFrom (q3 fops x.n0 x.F3 x.G3) k m = true → Loops (cx0 fops) NI (fun _ => none) (bodyOf Try.f41 23) 120 180 I3 ([.i x.n0, .i x.n3, .i x.n3, .i k, .i x.n3, .r x.R3]) (.exit 6) (skN 120) []) ∧
    (eqFrom (q3 fops x.n0 x.F3 x.G3) k m = false → Loops (cx0 fops) NI (fun _ => none) (bodyOf Try.f41 23) 120 180 I3 ([.i x.n0, .i x.n3, .i x.n3, .i k, .i x.n3, .r x.R3]) .ret (skR 2 120) []) := by
  refine scan_loops (D := fun k => [.i x.n0, .i x.n3, .i x.n3, .i k, .i x.n3, .r x.R3]) (n := x.n3) (fun k hk hlt hq => ?_) (fun k hk hlt hq => ?_) ?_
  · have r := r3aI fops x k
    rw [wrap_succ hk (by omega)] at r
    have ht : bP fops x.n0 x.F3 x.G3 k = false := by unfold q3 at hq; simpa using hq
    exact .mk _ (ρ := []) r (AllT.app (hd3_ok hk hlt) (AllT.cons (nt ht) (AllT.one' x.f3)))
  · have ht : bP fops x.n0 x.F3 x.G3 k = true := by unfold q3 at hq; simpa using hq
    exact .mk _ (ρ := []) (r3bI fops x k) (AllT.app (hd3_ok hk hlt) (AllT.one' ht))
  · exact .mk _ (ρ := []) (r3eI fops x x.n3) (AllT.one' (by simp))

def P1I (a a2 k N3 N2 N1 N0 n0 n1 n2 n3 : Int) (r0 r1 r2 r3 : Int → List SC) : Prop := a2 = n0 ∧ a = n0 ∧ k = 0 ∧ n1 = n0 ∧ Okd N3 N2 N1 N0 n0 n1 n2 n3 r0 r1 r2 r3
noncomputable def F1I (O : FOps) : List LD → Option (XO × List Bool)
  | [.i a, .i a2, .i k, .i N3, .r r3, .i N2, .r r2, .i N1, .r r1, .i N0, .r r0, .i n0, .i n1, .i n2, .i n3] => some ([(.s (!eqFrom (q1 O (datF r0) (datF r1)) 0 n0.toNat), .ret, skR 2 6, []), (.t, .exit 0, I1E, [.i n0, .i n3, .r r3, .i n2, .r r2, .i n2, .i n3])], [pB (P1I a a2 k N3 N2 N1 N0 n0 n1 n2 n3 r0 r1 r2 r3)])
  | _ => none
def P2I (a l1 l2 k N3 N2 n2 n3 : Int) (r2 r3 : Int → List SC) : Prop := l1 = n2 ∧ l2 = n2 ∧ k = 0 ∧ N2 = n2 ∧ N3 = n3 ∧ 0 ≤ n2 ∧ n2 ≤ 1048576 ∧ Shape SlWall.ts r2 ∧ Shape SlPane.ts r3
noncomputable def F2I (O : FOps) : List LD → Option (XO × List Bool)
  | [.i a, .i l1, .i l2, .i k, .i N3, .r r3, .i N2, .r r2, .i n2, .i n3] => some ([(.s (!eqFrom (q2 O a (datF r2) (datG r2)) 0 n2.toNat), .ret, skR 2 60, []), (.t, .exit 2, I2E, [.i a, .i n3, .r r3, .i n3])], [pB (P2I a l1 l2 k N3 N2 n2 n3 r2 r3)])
  | _ => none
def P3I (a l1 l2 k N3 : Int) (r3 : Int → List SC) : Prop := l1 = N3 ∧ l2 = N3 ∧ k = 0 ∧ 0 ≤ N3 ∧ N3 ≤ 1048576 ∧ Shape SlPane.ts r3
noncomputable def F3I (O : FOps) : List LD → Option (XO × List Bool)
  | [.i a, .i l1, .i l2, .i k, .i N3, .r r3] => some ([(.s (!eqFrom (q3 O a (datF r3) (datG r3)) 0 N3.toNat), .ret, skR 2 120, []), (.t, .exit 6, skN 120, [])], [pB (P3I a l1 l2 k N3 r3)])
  | _ => none
noncomputable def L1I (O : FOps) : List Ly → Top → Option Outs := orIter (cx0 O) NI (bodyOf Try.f41 5) (loopL NI 6 60 I1 [] (F1I O))
noncomputable def L2I (O : FOps) : List Ly → Top → Option Outs := orIter (cx0 O) NI (bodyOf Try.f41 11) (loopL NI 60 120 I2 [] (F2I O))
noncomputable def L3I (O : FOps) : List Ly → Top → Option Outs := orIter (cx0 O) NI (bodyOf Try.f41 23) (loopL NI 120 180 I3 [] (F3I O))
set_option maxRecDepth 100000 in
theorem ok1I : CodeOK Try.prog NI (.loop (bodyOf Try.f41 5)) (L1I fops) := by
  refine orIter_ok (l := L0) okL0 mixed 8 (loopL_ok (cx := cx0 fops) (lp := fun _ => none) (fun ts => body_ok (l := L0) okL0 mixed 8 _ ts) fun p r hr hob => ?_)
  unfold F1I at hr
  split at hr <;> cases hr
  rename_i a a2 k N3 r3 N2 r2 N1 r1 N0 r0 n0 n1 n2 n3
  obtain ⟨e1, ea, ek, en, eN0, eN1, eN2, eN3, b0, c0, b2, c2, b3, c3, s0, s1, s2, s3⟩ := pB_iff.1 hob.head
  rw [e1, ea, ek, eN0, eN1, eN2, eN3, en]
  obtain ⟨h1, h2⟩ := lo1I ⟨datF r0, datF r1, datF r2, datF r3, datG r0, datG r1, datG r2, datG r3, n0, n0, n2, n3⟩ rfl c0 n0.toNat 0 (Int.le_refl _) (by show (0 : Int) + n0.toNat = n0; omega)
  have E : daA ⟨datF r0, datF r1, datF r2, datF r3, datG r0, datG r1, datG r2, datG r3, n0, n0, n2, n3⟩ = [.i n3, .r r3, .i n2, .r r2, .i n0, .r r1, .i n0, .r r0, .i n0, .i n0, .i n2, .i n3] := by
    unfold daA FD.R0 FD.R1 FD.R2 FD.R3
    rw [← (show r0 = SlFloat32.Row (datF r0) (datG r0) from s0), ← (show r1 = SlFloat32.Row (datF r1) (datG r1) from s1), ← (show r2 = SlWall.Row (datF r2) (datG r2) from s2), ← (show r3 = SlPane.Row (datF r3) (datG r3) from s3)]
  have E' : daB ⟨datF r0, datF r1, datF r2, datF r3, datG r0, datG r1, datG r2, datG r3, n0, n0, n2, n3⟩ = [.i n3, .r r3, .i n2, .r r2, .i n2, .i n3] := by
    unfold daB FD.R2 FD.R3
    rw [← (show r2 = SlWall.Row (datF r2) (datG r2) from s2), ← (show r3 = SlPane.Row (datF r3) (datG r3) from s3)]
  rw [E] at h1 h2
  rw [E'] at h1
  cases hq : eqFrom (q1 fops (datF r0) (datF r1)) 0 n0.toNat with
  | true => exact ⟨.exit 0, I1E, _, by simp [pickX, SB.val], h1 hq⟩
  | false => exact ⟨.ret, skR 2 6, [], by simp [pickX, SB.val], h2 hq⟩
set_option maxRecDepth 100000 in
theorem ok2I : CodeOK Try.prog NI (.loop (bodyOf Try.f41 11)) (L2I fops) := by
  refine orIter_ok (l := L0) okL0 mixed 8 (loopL_ok (cx := cx0 fops) (lp := fun _ => none) (fun ts => body_ok (l := L0) okL0 mixed 8 _ ts) fun p r hr hob => ?_)
  unfold F2I at hr
  split at hr <;> cases hr
  rename_i a l1 l2 k N3 r3 N2 r2 n2 n3
  obtain ⟨e1, e2, ek, eN2, eN3, b2, c2, s2, s3⟩ := pB_iff.1 hob.head
  rw [e1, e2, ek, eN2, eN3]
  obtain ⟨h1, h2⟩ := lo2I ⟨datF r2, datF r2, datF r2, datF r3, datG r2, datG r2, datG r2, datG r3, a, a, n2, n3⟩ c2 n2.toNat 0 (Int.le_refl _) (by show (0 : Int) + n2.toNat = n2; omega)
  have E : daB ⟨datF r2, datF r2, datF r2, datF r3, datG r2, datG r2, datG r2, datG r3, a, a, n2, n3⟩ = [.i n3, .r r3, .i n2, .r r2, .i n2, .i n3] := by
    unfold daB FD.R2 FD.R3
    rw [← (show r2 = SlWall.Row (datF r2) (datG r2) from s2), ← (show r3 = SlPane.Row (datF r3) (datG r3) from s3)]
  have E' : daC ⟨datF r2, datF r2, datF r2, datF r3, datG r2, datG r2, datG r2, datG r3, a, a, n2, n3⟩ = [.i n3, .r r3, .i n3] := by
    unfold daC FD.R3
    rw [← (show r3 = SlPane.Row (datF r3) (datG r3) from s3)]
  rw [E] at h1 h2
  rw [E'] at h1
  cases hq : eqFrom (q2 fops a (datF r2) (datG r2)) 0 n2.toNat with
  | true => exact ⟨.exit 2, I2E, _, by simp [pickX, SB.val], h1 hq⟩
  | false => exact ⟨.ret, skR 2 60, [], by simp [pickX, SB.val], h2 hq⟩
set_option maxRecDepth 100000 in
theorem ok3I : CodeOK Try.prog NI (.loop (bodyOf Try.f41 23)) (L3I fops) := by
  refine orIter_ok (l := L0) okL0 mixed 8 (loopL_ok (cx := cx0 fops) (lp := fun _ => none) (fun ts => body_ok (l := L0) okL0 mixed 8 _ ts) fun p r hr hob => ?_)
  unfold F3I at hr
  split at hr <;> cases hr
  rename_i a l1 l2 k N3 r3
  obtain ⟨e1, e2, ek, b3, c3, s3⟩ := pB_iff.1 hob.head
  rw [e1, e2, ek]
  obtain ⟨h1, h2⟩ := lo3I ⟨datF r3, datF r3, datF r3, datF r3, datG r3, datG r3, datG r3, datG r3, a, a, N3, N3⟩ c3 N3.toNat 0 (Int.le_refl _) (by show (0 : Int) + N3.toNat = N3; omega)
  have E : (⟨datF r3, datF r3, datF r3, datF r3, datG r3, datG r3, datG r3, datG r3, a, a, N3, N3⟩ : FD).R3 = r3 := by
    unfold FD.R3
    rw [← (show r3 = SlPane.Row (datF r3) (datG r3) from s3)]
  rw [E] at h1 h2
  skip
  cases hq : eqFrom (q3 fops a (datF r3) (datG r3)) 0 N3.toNat with
  | true => exact ⟨.exit 6, skN 120, [], by simp [pickX, SB.val], h1 hq⟩
  | false => exact ⟨.ret, skR 2 120, [], by simp [pickX, SB.val], h2 hq⟩
set_option maxRecDepth 100000 in
theorem cI0 : CallOK Try.prog 41 (inl (cx0 fops) Try.f41 ⟨fun _ => none, lpOf [(5, L1I fops), (11, L2I fops), (23, L3I fops)]⟩) := by
  have hb : Try.f41.body.isSome = true := by kernel_rfl
  obtain ⟨c, hc⟩ := Option.isSome_iff_exists.1 hb
  have h1 : (match Try.f41.body with | some c => onceB (loopsIn c) && ((match loopAt 5 (loopsIn c) with | some _ => true | none => false) && ((match loopAt 11 (loopsIn c) with | some _ => true | none => false) && (match loopAt 23 (loopsIn c) with | some _ => true | none => false))) | none => false) = true := by kernel_rfl
  rw [hc] at h1
  simp only [Bool.and_eq_true] at h1
  exact inlL_of (l := L0) (ls := [(5, L1I fops), (11, L2I fops), (23, L3I fops)]) okL0 mixed 8 Try.func41 (by kernel_rfl) (fun _ => none) hc h1.1 ⟨⟨_, bodyOf_at hc h1.2.1, ok1I⟩, ⟨_, bodyOf_at hc h1.2.2.1, ok2I⟩, ⟨_, bodyOf_at hc h1.2.2.2, ok3I⟩, trivial⟩
/-! ### the loops of spec.l04Ok -/
theorem lo1S (x : FD) (h1 : x.n1 = x.n0) (hn : x.n0 ≤ 1048576) : ∀ (m : Nat) (k : Int), 0 ≤ k → k + m = x.n0 →
    (eqFrom (q1 fops x.F0 x.F1) k m = true → Loops (cx1 fops) NS (fun _ => none) (bodyOf Try.f37 5) 6 60 S1 (.i x.n0 :: .i k :: daA x) (.exit 0) S1E (.i x.n0 :: daB x)) ∧
    (eqFrom (q1 fops x.F0 x.F1) k m = false → Loops (cx1 fops) NS (fun _ => none) (bodyOf Try.f37 5) 6 60 S1 (.i x.n0 :: .i k :: daA x) .ret (skR 2 6) []) := by
  refine scan_loops (D := fun k => .i x.n0 :: .i k :: daA x) (n := x.n0) (fun k hk hlt hq => ?_) (fun k hk hlt hq => ?_) ?_
  · have r := r1aS fops x k
    rw [wrap_succ hk (by omega)] at r
    have ht : t1 fops x.F0 x.F1 k = false := by unfold q1 at hq; simpa using hq
    exact .mk _ (ρ := []) r (AllT.app (hd3_ok hk hlt) (AllT.app (x1_ok fops x.F0 hk (by omega)) (AllT.cons (by rw [ht]; rfl) (AllT.cons x.f3 (AllT.cons x.f2 (AllT.cons x.f1 (AllT.one' x.f0)))))))
  · have ht : t1 fops x.F0 x.F1 k = true := by unfold q1 at hq; simpa using hq
    exact .mk _ (ρ := []) (r1bS fops x k) (AllT.app (hd3_ok hk hlt) (AllT.app (x1_ok fops x.F0 hk (by omega)) (AllT.one' ht)))
  · exact .mk _ (ρ := []) (r1eS fops x x.n0) (AllT.cons (by simp) (AllT.cons x.f3 (AllT.one' x.f2)))

theorem lo2S (x : FD) (hn : x.n2 ≤ 1048576) : ∀ (m : Nat) (k : Int), 0 ≤ k → k + m = x.n2 →
    (eqFrom (q2S fops x.n0 x.F2 x.G2) k m = true → Loops (cx1 fops) NS (fun _ => none) (bodyOf Try.f37 10) 60 120 S2 (.i x.n0 :: .i k :: daB x) (.exit 2) S2E (.i x.n0 :: daC x)) ∧
    (eqFrom (q2S fops x.n0 x.F2 x.G2) k m = false → Loops (cx1 fops) NS (fun _ => none) (bodyOf Try.f37 10) 60 120 S2 (.i x.n0 :: .i k :: daB x) .ret (skR 2 60) []) := by
  refine scan_loops (D := fun k => .i x.n0 :: .i k :: daB x) (n := x.n2) (fun k hk hlt hq => ?_) (fun k hk hlt hq => ?_) ?_
  · have r := r2aS fops x k
    rw [wrap_succ hk (by omega)] at r
    exact .mk _ (ρ := []) r (AllT.app (hd3_ok hk hlt) (AllT.cons (nn hq) (AllT.cons x.f3 (AllT.one' x.f2))))
  · exact .mk _ (ρ := []) (r2bS fops x k) (AllT.app (hd3_ok hk hlt) (AllT.one' (nt hq)))
  · exact .mk _ (ρ := []) (r2eS fops x x.n2) (AllT.cons (by simp) (AllT.one' x.f3))
theorem lo3S (x : FD) (hn : x.n3 ≤ 1048576) : ∀ (m : Nat) (k : Int), 0 ≤ k → k + m = x.n3 →
    (eqFrom (q3S fops x.n0 x.F3 x.G3) k m = true → Loops (cx1 fops) NS (fun _ => none) (bodyOf Try.f37 15) 120 180 S3 (.i x.n0 :: .i k :: daC x) (.exit 4) (skN 120) []) ∧
    (eqFrom (q3S fops x.n0 x.F3 x.G3) k m = false → Loops (cx1 fops) NS (fun _ => none) (bodyOf Try.f37 15) 120 180 S3 (.i x.n0 :: .i k :: daC x) .ret (skR 2 120) []) := by
  refine scan_loops (D := fun k => .i x.n0 :: .i k :: daC x) (n := x.n3) (fun k hk hlt hq => ?_) (fun k hk hlt hq => ?_) ?_
  · have r := r3aS fops x k
    rw [wrap_succ hk (by omega)] at r
    exact .mk _ (ρ := []) r (AllT.app (hd3_ok hk hlt) (AllT.cons (nn hq) (AllT.one' x.f3)))
  · exact .mk _ (ρ := []) (r3bS fops x k) (AllT.app (hd3_ok hk hlt) (AllT.one' (nt hq)))
  · exact .mk _ (ρ := []) (r3eS fops x x.n3) (AllT.one' (by simp))

def P1S (a k N3 N2 N1 N0 n0 n1 n2 n3 : Int) (r0 r1 r2 r3 : Int → List SC) : Prop := a = n0 ∧ k = 0 ∧ n1 = n0 ∧ Okd N3 N2 N1 N0 n0 n1 n2 n3 r0 r1 r2 r3
noncomputable def F1S (O : FOps) : List LD → Option (XO × List Bool)
  | [.i a, .i k, .i N3, .r r3, .i N2, .r r2, .i N1, .r r1, .i N0, .r r0, .i n0, .i n1, .i n2, .i n3] => some ([(.s (!eqFrom (q1 O (datF r0) (datF r1)) 0 n0.toNat), .ret, skR 2 6, []), (.t, .exit 0, S1E, [.i n0, .i n3, .r r3, .i n2, .r r2, .i n2, .i n3])], [pB (P1S a k N3 N2 N1 N0 n0 n1 n2 n3 r0 r1 r2 r3)])
  | _ => none
def P2S (a k N3 N2 n2 n3 : Int) (r2 r3 : Int → List SC) : Prop := k = 0 ∧ N2 = n2 ∧ N3 = n3 ∧ 0 ≤ n2 ∧ n2 ≤ 1048576 ∧ Shape SlWall.ts r2 ∧ Shape SlPane.ts r3
noncomputable def F2S (O : FOps) : List LD → Option (XO × List Bool)
  | [.i a, .i k, .i N3, .r r3, .i N2, .r r2, .i n2, .i n3] => some ([(.s (!eqFrom (q2S O a (datF r2) (datG r2)) 0 n2.toNat), .ret, skR 2 60, []), (.t, .exit 2, S2E, [.i a, .i n3, .r r3, .i n3])], [pB (P2S a k N3 N2 n2 n3 r2 r3)])
  | _ => none
def P3S (a k N3 n3 : Int) (r3 : Int → List SC) : Prop := n3 = N3 ∧ k = 0 ∧ 0 ≤ N3 ∧ N3 ≤ 1048576 ∧ Shape SlPane.ts r3
noncomputable def F3S (O : FOps) : List LD → Option (XO × List Bool)
  | [.i a, .i k, .i N3, .r r3, .i n3] => some ([(.s (!eqFrom (q3S O a (datF r3) (datG r3)) 0 N3.toNat), .ret, skR 2 120, []), (.t, .exit 4, skN 120, [])], [pB (P3S a k N3 n3 r3)])
  | _ => none
noncomputable def L1S (O : FOps) : List Ly → Top → Option Outs := orIter (cx1 O) NS (bodyOf Try.f37 5) (loopL NS 6 60 S1 [] (F1S O))
noncomputable def L2S (O : FOps) : List Ly → Top → Option Outs := orIter (cx1 O) NS (bodyOf Try.f37 10) (loopL NS 60 120 S2 [] (F2S O))
noncomputable def L3S (O : FOps) : List Ly → Top → Option Outs := orIter (cx1 O) NS (bodyOf Try.f37 15) (loopL NS 120 180 S3 [] (F3S O))
set_option maxRecDepth 100000 in
theorem ok1S : CodeOK Try.prog NS (.loop (bodyOf Try.f37 5)) (L1S fops) := by
  refine orIter_ok (l := (L1 fops)) okL1 mixed 8 (loopL_ok (cx := cx1 fops) (lp := fun _ => none) (fun ts => body_ok (l := (L1 fops)) okL1 mixed 8 _ ts) fun p r hr hob => ?_)
  unfold F1S at hr
  split at hr <;> cases hr
  rename_i a k N3 r3 N2 r2 N1 r1 N0 r0 n0 n1 n2 n3
  obtain ⟨ea, ek, en, eN0, eN1, eN2, eN3, b0, c0, b2, c2, b3, c3, s0, s1, s2, s3⟩ := pB_iff.1 hob.head
  rw [ea, ek, eN0, eN1, eN2, eN3, en]
  obtain ⟨h1, h2⟩ := lo1S ⟨datF r0, datF r1, datF r2, datF r3, datG r0, datG r1, datG r2, datG r3, n0, n0, n2, n3⟩ rfl c0 n0.toNat 0 (Int.le_refl _) (by show (0 : Int) + n0.toNat = n0; omega)
  have E : daA ⟨datF r0, datF r1, datF r2, datF r3, datG r0, datG r1, datG r2, datG r3, n0, n0, n2, n3⟩ = [.i n3, .r r3, .i n2, .r r2, .i n0, .r r1, .i n0, .r r0, .i n0, .i n0, .i n2, .i n3] := by
    unfold daA FD.R0 FD.R1 FD.R2 FD.R3
    rw [← (show r0 = SlFloat32.Row (datF r0) (datG r0) from s0), ← (show r1 = SlFloat32.Row (datF r1) (datG r1) from s1), ← (show r2 = SlWall.Row (datF r2) (datG r2) from s2), ← (show r3 = SlPane.Row (datF r3) (datG r3) from s3)]
  have E' : daB ⟨datF r0, datF r1, datF r2, datF r3, datG r0, datG r1, datG r2, datG r3, n0, n0, n2, n3⟩ = [.i n3, .r r3, .i n2, .r r2, .i n2, .i n3] := by
    unfold daB FD.R2 FD.R3
    rw [← (show r2 = SlWall.Row (datF r2) (datG r2) from s2), ← (show r3 = SlPane.Row (datF r3) (datG r3) from s3)]
  rw [E] at h1 h2
  rw [E'] at h1
  cases hq : eqFrom (q1 fops (datF r0) (datF r1)) 0 n0.toNat with
  | true => exact ⟨.exit 0, S1E, _, by simp [pickX, SB.val], h1 hq⟩
  | false => exact ⟨.ret, skR 2 6, [], by simp [pickX, SB.val], h2 hq⟩
set_option maxRecDepth 100000 in
theorem ok2S : CodeOK Try.prog NS (.loop (bodyOf Try.f37 10)) (L2S fops) := by
  refine orIter_ok (l := (L1 fops)) okL1 mixed 8 (loopL_ok (cx := cx1 fops) (lp := fun _ => none) (fun ts => body_ok (l := (L1 fops)) okL1 mixed 8 _ ts) fun p r hr hob => ?_)
  unfold F2S at hr
  split at hr <;> cases hr
  rename_i a k N3 r3 N2 r2 n2 n3
  obtain ⟨ek, eN2, eN3, b2, c2, s2, s3⟩ := pB_iff.1 hob.head
  rw [ek, eN2, eN3]
  obtain ⟨h1, h2⟩ := lo2S ⟨datF r2, datF r2, datF r2, datF r3, datG r2, datG r2, datG r2, datG r3, a, a, n2, n3⟩ c2 n2.toNat 0 (Int.le_refl _) (by show (0 : Int) + n2.toNat = n2; omega)
  have E : daB ⟨datF r2, datF r2, datF r2, datF r3, datG r2, datG r2, datG r2, datG r3, a, a, n2, n3⟩ = [.i n3, .r r3, .i n2, .r r2, .i n2, .i n3] := by
    unfold daB FD.R2 FD.R3
    rw [← (show r2 = SlWall.Row (datF r2) (datG r2) from s2), ← (show r3 = SlPane.Row (datF r3) (datG r3) from s3)]
  have E' : daC ⟨datF r2, datF r2, datF r2, datF r3, datG r2, datG r2, datG r2, datG r3, a, a, n2, n3⟩ = [.i n3, .r r3, .i n3] := by
    unfold daC FD.R3
    rw [← (show r3 = SlPane.Row (datF r3) (datG r3) from s3)]
  rw [E] at h1 h2
  rw [E'] at h1
  cases hq : eqFrom (q2S fops a (datF r2) (datG r2)) 0 n2.toNat with
  | true => exact ⟨.exit 2, S2E, _, by simp [pickX, SB.val], h1 hq⟩
  | false => exact ⟨.ret, skR 2 60, [], by simp [pickX, SB.val], h2 hq⟩
set_option maxRecDepth 100000 in
theorem ok3S : CodeOK Try.prog NS (.loop (bodyOf Try.f37 15)) (L3S fops) := by
  refine orIter_ok (l := (L1 fops)) okL1 mixed 8 (loopL_ok (cx := cx1 fops) (lp := fun _ => none) (fun ts => body_ok (l := (L1 fops)) okL1 mixed 8 _ ts) fun p r hr hob => ?_)
  unfold F3S at hr
  split at hr <;> cases hr
  rename_i a k N3 r3 n3
  obtain ⟨e1, ek, b3, c3, s3⟩ := pB_iff.1 hob.head
  rw [e1, ek]
  obtain ⟨h1, h2⟩ := lo3S ⟨datF r3, datF r3, datF r3, datF r3, datG r3, datG r3, datG r3, datG r3, a, a, N3, N3⟩ c3 N3.toNat 0 (Int.le_refl _) (by show (0 : Int) + N3.toNat = N3; omega)
  have E : (⟨datF r3, datF r3, datF r3, datF r3, datG r3, datG r3, datG r3, datG r3, a, a, N3, N3⟩ : FD).R3 = r3 := by
    unfold FD.R3
    rw [← (show r3 = SlPane.Row (datF r3) (datG r3) from s3)]
  unfold daC at h1 h2
  rw [E] at h1 h2
  cases hq : eqFrom (q3S fops a (datF r3) (datG r3)) 0 N3.toNat with
  | true => exact ⟨.exit 4, skN 120, [], by simp [pickX, SB.val], h1 hq⟩
  | false => exact ⟨.ret, skR 2 120, [], by simp [pickX, SB.val], h2 hq⟩
set_option maxRecDepth 100000 in
theorem cS0 : CallOK Try.prog 37 (inl (cx1 fops) Try.f37 ⟨fun _ => none, lpOf [(5, L1S fops), (10, L2S fops), (15, L3S fops)]⟩) := by
  have hb : Try.f37.body.isSome = true := by kernel_rfl
  obtain ⟨c, hc⟩ := Option.isSome_iff_exists.1 hb
  have h1 : (match Try.f37.body with | some c => onceB (loopsIn c) && ((match loopAt 5 (loopsIn c) with | some _ => true | none => false) && ((match loopAt 10 (loopsIn c) with | some _ => true | none => false) && (match loopAt 15 (loopsIn c) with | some _ => true | none => false))) | none => false) = true := by kernel_rfl
  rw [hc] at h1
  simp only [Bool.and_eq_true] at h1
  exact inlL_of (l := (L1 fops)) (ls := [(5, L1S fops), (10, L2S fops), (15, L3S fops)]) okL1 mixed 8 Try.func37 (by kernel_rfl) (fun _ => none) hc h1.1 ⟨⟨_, bodyOf_at hc h1.2.1, ok1S⟩, ⟨_, bodyOf_at hc h1.2.2.1, ok2S⟩, ⟨_, bodyOf_at hc h1.2.2.2, ok3S⟩, trivial⟩

end
end Go.Proofs.Ytaoeigofmfpamaa.Fla
end

/- Whether a flat is valid: the contracts. Nothing is assumed. -/
section
namespace Go.Proofs.Ytaoeigofmfpamaa.Fla
open Go
noncomputable section
/-- A flat as a call sees it. -/
structure Fl where
  n0 : Int
  n1 : Int
  n2 : Int
  n3 : Int
  N0 : Int
  N1 : Int
  N2 : Int
  N3 : Int
  r0 : Int → List SC
  r1 : Int → List SC
  r2 : Int → List SC
  r3 : Int → List SC
def Fl.ok (x : Fl) : Bool := pB (Okd x.N3 x.N2 x.N1 x.N0 x.n0 x.n1 x.n2 x.n3 x.r0 x.r1 x.r2 x.r3)
structure Fg where
  f0 : Bool
  f1 : Bool
  f2 : Bool
  f3 : Bool
  w0 : Bool
  w1 : Bool
  w2 : Bool
  w3 : Bool
  o0 : Bool
  o1 : Bool
  o2 : Bool
  o3 : Bool
  w : Bool
  o : Bool
def Fl.sls (x : Fl) (g : Fg) : List SC := [.sl 4 0 1 (.s x.n0) g.f0, .sl 3 0 1 (.s x.n1) g.f1, .sl 2 0 8 (.s x.n2) g.f2, .sl 1 0 4 (.s x.n3) g.f3]
def Fl.rd (x : Fl) (g : Fg) (l : List (Nat × Seg)) : List (Nat × Seg) := (1, ⟨g.w3, g.o3, .rows 4 x.N3 x.r3⟩) :: (2, ⟨g.w2, g.o2, .rows 8 x.N2 x.r2⟩) :: (3, ⟨g.w1, g.o1, .rows 1 x.N1 x.r1⟩) :: (4, ⟨g.w0, g.o0, .rows 1 x.N0 x.r0⟩) :: l
def Fl.box (x : Fl) (g : Fg) : List (Nat × Seg) := [(5, ⟨g.w, g.o, .cells (x.sls g)⟩)]
def isFl (i0 p0 e0 i1 p1 e1 i2 p2 e2 i3 p3 e3 j0 s0 j1 s1 j2 s2 j3 s3 : Nat) : Bool :=
  Nat.beq i0 4 && (Nat.beq p0 0 && (Nat.beq e0 1 && (Nat.beq i1 3 && (Nat.beq p1 0 && (Nat.beq e1 1 && (Nat.beq i2 2 && (Nat.beq p2 0 && (Nat.beq e2 8 && (Nat.beq i3 1 && (Nat.beq p3 0 && (Nat.beq e3 4 &&
  (Nat.beq j0 4 && (Nat.beq s0 1 && (Nat.beq j1 3 && (Nat.beq s1 1 && (Nat.beq j2 2 && (Nat.beq s2 8 && (Nat.beq j3 1 && Nat.beq s3 4))))))))))))))))))
def flV (base : Nat) (args : List SV) (rd : List (Nat × Seg)) : Option (Fl × List SV) :=
  match args with
  | .a [.sl i0 p0 e0 (.s n0) _, .sl i1 p1 e1 (.s n1) _, .sl i2 p2 e2 (.s n2) _, .sl i3 p3 e3 (.s n3) _] :: rest => match rd with
    | [(j3, ⟨_, _, .rows s3 N3 r3⟩), (j2, ⟨_, _, .rows s2 N2 r2⟩), (j1, ⟨_, _, .rows s1 N1 r1⟩), (j0, ⟨_, _, .rows s0 N0 r0⟩)] => match Nat.beq base 5 && isFl i0 p0 e0 i1 p1 e1 i2 p2 e2 i3 p3 e3 j0 s0 j1 s1 j2 s2 j3 s3 with
      | true => some (⟨n0, n1, n2, n3, N0, N1, N2, N3, r0, r1, r2, r3⟩, rest)
      | false => none
    | _ => none
  | _ => none
def flP (base : Nat) (args : List SV) (rd : List (Nat × Seg)) : Option (Fl × List SV) :=
  match args with
  | .c (.ptr j q) :: rest => match rd with
    | [(j3, ⟨_, _, .rows s3 N3 r3⟩), (j2, ⟨_, _, .rows s2 N2 r2⟩), (j1, ⟨_, _, .rows s1 N1 r1⟩), (j0, ⟨_, _, .rows s0 N0 r0⟩), (j', ⟨_, _, .cells [.sl i0 p0 e0 (.s n0) _, .sl i1 p1 e1 (.s n1) _, .sl i2 p2 e2 (.s n2) _, .sl i3 p3 e3 (.s n3) _]⟩)] => match Nat.beq base 6 && (Nat.beq j 5 && (Nat.beq q 0 && (Nat.beq j' 5 && isFl i0 p0 e0 i1 p1 e1 i2 p2 e2 i3 p3 e3 j0 s0 j1 s1 j2 s2 j3 s3))) with
      | true => some (⟨n0, n1, n2, n3, N0, N1, N2, N3, r0, r1, r2, r3⟩, rest)
      | false => none
    | _ => none
  | _ => none
theorem flV_some {base : Nat} {args : List SV} {rd : List (Nat × Seg)} {x : Fl} {rest : List SV} (h : flV base args rd = some (x, rest)) : ∃ g, base = 5 ∧ args = .a (x.sls g) :: rest ∧ rd = x.rd g [] := by
  unfold flV at h
  split at h <;> try (cases h; done)
  rename_i i0 p0 e0 n0 f0 i1 p1 e1 n1 f1 i2 p2 e2 n2 f2 i3 p3 e3 n3 f3 rest'
  split at h <;> try (cases h; done)
  rename_i j3 w3 o3 s3 N3 r3 j2 w2 o2 s2 N2 r2 j1 w1 o1 s1 N1 r1 j0 w0 o0 s0 N0 r0
  split at h <;> cases h
  rename_i hc
  unfold isFl at hc
  simp only [Bool.and_eq_true, beqN] at hc
  obtain ⟨rfl, rfl, rfl, rfl, rfl, rfl, rfl, rfl, rfl, rfl, rfl, rfl, rfl, rfl, rfl, rfl, rfl, rfl, rfl, rfl, rfl⟩ := hc
  exact ⟨⟨f0, f1, f2, f3, w0, w1, w2, w3, o0, o1, o2, o3, true, true⟩, rfl, rfl, rfl⟩
theorem flP_some {base : Nat} {args : List SV} {rd : List (Nat × Seg)} {x : Fl} {rest : List SV} (h : flP base args rd = some (x, rest)) : ∃ g, base = 6 ∧ args = .c (.ptr 5 0) :: rest ∧ rd = x.rd g (x.box g) := by
  unfold flP at h
  split at h <;> try (cases h; done)
  rename_i j q rest'
  split at h <;> try (cases h; done)
  rename_i j3 w3 o3 s3 N3 r3 j2 w2 o2 s2 N2 r2 j1 w1 o1 s1 N1 r1 j0 w0 o0 s0 N0 r0 j' w o i0 p0 e0 n0 f0 i1 p1 e1 n1 f1 i2 p2 e2 n2 f2 i3 p3 e3 n3 f3
  split at h <;> cases h
  rename_i hc
  unfold isFl at hc
  simp only [Bool.and_eq_true, beqN] at hc
  obtain ⟨rfl, rfl, rfl, rfl, rfl, rfl, rfl, rfl, rfl, rfl, rfl, rfl, rfl, rfl, rfl, rfl, rfl, rfl, rfl, rfl, rfl, rfl, rfl, rfl⟩ := hc
  exact ⟨⟨f0, f1, f2, f3, w0, w1, w2, w3, o0, o1, o2, o3, w, o⟩, rfl, rfl, rfl⟩
/-- A call that looks at a flat and answers with a plain value. -/
def flH (D : Nat → List SV → List (Nat × Seg) → Option (Fl × List SV)) (nx : Nat) (V : Fl → List SV → Option (SV × List Bool)) : CS := fun base args rd => match D base args rd with
  | some (x, rest) => match V x rest with
    | some (v, ob) => some ⟨v, [], nx, x.ok :: ob⟩
    | none => none
  | none => none
/-! ### valid -/
def rgI (n0 n1 n2 n3 : Int) : Bool := bif decide (n0 < 1) then true else bif decide (5 < n0) then true else bif !decide (n1 = n0) then true else bif decide (10 < n2) then true else decide (8 < n3)
def rgS (n0 n1 n2 n3 : Int) : Bool := bif !(bif decide (1 ≤ n0) then decide (n0 ≤ 5) else false) then true else bif !decide (n1 = n0) then true else bif decide (10 < n2) then true else decide (8 < n3)
theorem rg_eq (n0 n1 n2 n3 : Int) : rgS n0 n1 n2 n3 = rgI n0 n1 n2 n3 := by
  unfold rgS rgI
  by_cases h : n0 < 1
  · rw [decide_eq_true h, decide_eq_false (by omega : ¬ 1 ≤ n0)]; rfl
  · rw [decide_eq_false h, decide_eq_true (by omega : 1 ≤ n0)]
    by_cases h2 : 5 < n0
    · rw [decide_eq_true h2, decide_eq_false (by omega : ¬ n0 ≤ 5)]; rfl
    · rw [decide_eq_false h2, decide_eq_true (by omega : n0 ≤ 5)]; rfl
theorem rgI_false {n0 n1 n2 n3 : Int} (h : rgI n0 n1 n2 n3 = false) : 1 ≤ n0 ∧ n0 ≤ 5 ∧ n1 = n0 ∧ n2 ≤ 10 ∧ n3 ≤ 8 := by
  unfold rgI at h
  by_cases h1 : n0 < 1
  · rw [decide_eq_true h1] at h; cases h
  · rw [decide_eq_false h1] at h
    by_cases h2 : 5 < n0
    · rw [decide_eq_true h2] at h; cases h
    · rw [decide_eq_false h2] at h
      by_cases h3 : n1 = n0
      · rw [decide_eq_true h3] at h
        by_cases h4 : 10 < n2
        · rw [decide_eq_true h4] at h; cases h
        · rw [decide_eq_false h4] at h
          have : ¬ 8 < n3 := of_decide_eq_false h
          omega
      · rw [decide_eq_false h3] at h; cases h
def e1 (O : FOps) (x : Fl) : Bool := eqFrom (q1 O (datF x.r0) (datF x.r1)) 0 x.n0.toNat
def e2 (O : FOps) (x : Fl) : Bool := eqFrom (q2 O x.n0 (datF x.r2) (datG x.r2)) 0 x.n2.toNat
def e3 (O : FOps) (x : Fl) : Bool := eqFrom (q3 O x.n0 (datF x.r3) (datG x.r3)) 0 x.n3.toNat
def e2S (O : FOps) (x : Fl) : Bool := eqFrom (q2S O x.n0 (datF x.r2) (datG x.r2)) 0 x.n2.toNat
def e3S (O : FOps) (x : Fl) : Bool := eqFrom (q3S O x.n0 (datF x.r3) (datG x.r3)) 0 x.n3.toNat
def v4 (g a b c : Bool) : Bool := bif g then false else bif !a then false else bif !b then false else bif !c then false else true
/-- A flat is valid. -/
def vF (O : FOps) (x : Fl) : Bool := v4 (rgI x.n0 x.n1 x.n2 x.n3) (e1 O x) (e2 O x) (e3 O x)
def obV (g a b : Bool) (x : Fl) (p1 p2 p3 : Prop) : List Bool :=
  gdB g [flatR x.r3, flatR x.r2, flatR x.r1, flatR x.r0, pB p1] ++ gdB g (gdB (!a) [flatR x.r3, flatR x.r2, pB p2]) ++ gdB g (gdB (!a) (gdB (!b) [flatR x.r3, pB p3]))
set_option maxRecDepth 100000 in
theorem I_run (O : FOps) (x : Fl) (g : Fg) : roS (inl (cx0 O) Try.f41 ⟨fun _ => none, lpOf [(5, L1I O), (11, L2I O), (23, L3I O)]⟩) 5 [.a (x.sls g)] (x.rd g []) =
    some ⟨.c (.bool (.s (vF O x))), [], 180, obV (rgI x.n0 x.n1 x.n2 x.n3) (e1 O x) (e2 O x) x (P1I x.n0 x.n0 0 x.N3 x.N2 x.N1 x.N0 x.n0 x.n1 x.n2 x.n3 x.r0 x.r1 x.r2 x.r3) (P2I x.n0 x.n2 x.n2 0 x.n3 x.n2 x.n2 x.n3 x.r2 x.r3) (P3I x.n0 x.n3 x.n3 0 x.n3 x.r3)⟩ := by kernel_rfl
set_option maxRecDepth 100000 in
theorem S_run (O : FOps) (x : Fl) (g : Fg) : roS (inl (cx1 O) Try.f37 ⟨fun _ => none, lpOf [(5, L1S O), (10, L2S O), (15, L3S O)]⟩) 6 [.c (.ptr 5 0)] (x.rd g (x.box g)) =
    some ⟨.c (.bool (.s (v4 (rgS x.n0 x.n1 x.n2 x.n3) (e1 O x) (e2S O x) (e3S O x)))), [], 180, obV (rgS x.n0 x.n1 x.n2 x.n3) (e1 O x) (e2S O x) x (P1S x.n0 0 x.N3 x.N2 x.N1 x.N0 x.n0 x.n1 x.n2 x.n3 x.r0 x.r1 x.r2 x.r3) (P2S x.n0 0 x.n3 x.n2 x.n2 x.n3 x.r2 x.r3) (P3S x.n0 0 x.n3 x.n3 x.r3)⟩ := by kernel_rfl
theorem shF {ts : List KK} {row : Int → List SC} (h : Shape ts row) : flatR row = true := by rw [h]; exact rowK_flat _ _ _
theorem obV_ok {g a b : Bool} {x : Fl} {p1 p2 p3 : Prop} (h : x.ok = true) (h1 : g = false → p1) (h2 : g = false → p2) (h3 : g = false → p3) : AllT (obV g a b x p1 p2 p3) := by
  obtain ⟨_, _, _, _, _, _, _, _, _, _, s0, s1, s2, s3⟩ := pB_iff.1 h
  refine AllT.app (AllT.app (gdB_ok fun e => ?_) (gdB_ok fun e => gdB_ok fun _ => ?_)) (gdB_ok fun e => gdB_ok fun _ => gdB_ok fun _ => ?_)
  · exact AllT.cons (shF s3) (AllT.cons (shF s2) (AllT.cons (shF s1) (AllT.cons (shF s0) (AllT.one' (pB_iff.2 (h1 e))))))
  · exact AllT.cons (shF s3) (AllT.cons (shF s2) (AllT.one' (pB_iff.2 (h2 e))))
  · exact AllT.cons (shF s3) (AllT.one' (pB_iff.2 (h3 e)))
theorem e2S_eq {x : Fl} (h : x.ok = true) : e2S fops x = e2 fops x := by
  obtain ⟨_, _, _, _, b, c, _⟩ := pB_iff.1 h
  exact eqFrom_congr _ _ fun j _ _ => q2S_eq b c _ _ _ j
theorem e3S_eq {x : Fl} (h : x.ok = true) : e3S fops x = e3 fops x := by
  obtain ⟨_, _, _, _, b, c, _⟩ := pB_iff.1 h
  exact eqFrom_congr _ _ fun j _ _ => q3S_eq b c _ _ _ j
def vV (O : FOps) (x : Fl) : List SV → Option (SV × List Bool)
  | [] => some (.c (.bool (.s (vF O x))), [])
  | _ => none
def vIC (O : FOps) : CS := orS (canS (flH flV 180 (vV O))) (inl (cx0 O) Try.f41 noH)
def vSC (O : FOps) : CS := orS (canS (flH flP 180 (vV O))) (inl (cx1 O) Try.f37 noH)
theorem flH_some {D : Nat → List SV → List (Nat × Seg) → Option (Fl × List SV)} {nx : Nat} {V : Fl → List SV → Option (SV × List Bool)} {b : Nat} {args : List SV} {rd : List (Nat × Seg)} {e : CEff} (h : flH D nx V b args rd = some e) :
    ∃ x rest v ob, D b args rd = some (x, rest) ∧ V x rest = some (v, ob) ∧ e = ⟨v, [], nx, x.ok :: ob⟩ := by
  unfold flH at h
  split at h <;> try (cases h; done)
  rename_i x rest hd
  split at h <;> cases h
  rename_i v ob hv
  exact ⟨x, rest, v, ob, hd, hv, rfl⟩
set_option maxRecDepth 100000 in
theorem cVI : CallOK Try.prog 41 (vIC fops) :=
  (CallOK.hand (H := flH flV 180 (vV fops)) cI0.ro fun b args rd e h hob => by
    obtain ⟨x, rest, v, ob, h1, h2, rfl⟩ := flH_some h
    obtain ⟨g, rfl, rfl, rfl⟩ := flV_some h1
    unfold vV at h2
    split at h2 <;> cases h2
    have hx := hob.head
    have hO := pB_iff.1 hx
    obtain ⟨u0, u1, u2, u3, b0, c0, b2, c2, b3, c3, s0, s1, s2, s3⟩ := hO
    exact ⟨_, I_run fops x g, obV_ok hx (fun e => ⟨rfl, rfl, rfl, (rgI_false e).2.2.1, pB_iff.1 hx⟩) (fun _ => ⟨rfl, rfl, rfl, rfl, rfl, b2, c2, s2, s3⟩) (fun _ => ⟨rfl, rfl, rfl, b3, c3, s3⟩)⟩).can.or
    (inlN_of (l := L0) okL0 mixed 8 Try.func41 (by kernel_rfl) (fun _ => none))
set_option maxRecDepth 100000 in
theorem cVS : CallOK Try.prog 37 (vSC fops) :=
  (CallOK.hand (H := flH flP 180 (vV fops)) cS0.ro fun b args rd e h hob => by
    obtain ⟨x, rest, v, ob, h1, h2, rfl⟩ := flH_some h
    obtain ⟨g, rfl, rfl, rfl⟩ := flP_some h1
    unfold vV at h2
    split at h2 <;> cases h2
    have hx := hob.head
    have hO := pB_iff.1 hx
    obtain ⟨u0, u1, u2, u3, b0, c0, b2, c2, b3, c3, s0, s1, s2, s3⟩ := hO
    have r := S_run fops x g
    have r' : v4 (rgS x.n0 x.n1 x.n2 x.n3) (e1 fops x) (e2S fops x) (e3S fops x) = vF fops x := by
      unfold vF
      rw [rg_eq, e2S_eq hx, e3S_eq hx]
    rw [r'] at r
    exact ⟨_, r, obV_ok hx (fun e => ⟨rfl, rfl, (rgI_false (by rw [← rg_eq]; exact e)).2.2.1, pB_iff.1 hx⟩) (fun _ => ⟨rfl, rfl, rfl, b2, c2, s2, s3⟩) (fun _ => ⟨rfl, rfl, b3, c3, s3⟩)⟩).can.or
    (inlN_of (l := L1 fops) okL1 mixed 8 Try.func37 (by kernel_rfl) (fun _ => none))
end
end Go.Proofs.Ytaoeigofmfpamaa.Fla
end

/- What the laws of flats ask for. Nothing is assumed. -/
section
namespace Go.Proofs.Ytaoeigofmfpamaa.Fla
open Go
noncomputable section
def LW (O : FOps) : List (Nat × CS) := [(73, amtS), (90, amtS), (96, absS), (12, gS (sfG O)), (22, SlFloat32.toC O), (39, SlWall.toC O), (40, SlPane.toC O), (24, SlFloat32.eqC O), (43, SlWall.eqC O), (44, SlPane.eqC O), (41, vIC O), (37, vSC O)]
set_option maxRecDepth 100000 in
theorem okLW : AllOK Try.prog (LW fops) := ⟨cAmtI, cAmtL, cAbs, cSf, SlFloat32.cToC, SlWall.cToC, SlPane.cToC, SlFloat32.cEqC, SlWall.cEqC, SlPane.cEqC, cVI, cVS, trivial⟩
def cxW (O : FOps) : Cx := ⟨Try.prog, O, orcN Try.prog O (LW O) 8⟩
/-- A flat as an argument of a law. -/
def flA (x : FD) : SV := .a [.sl 1 0 1 (.s x.n0) false, .sl 2 0 1 (.s x.n1) false, .sl 3 0 8 (.s x.n2) false, .sl 4 0 4 (.s x.n3) false]
def flA0 : SV := .a [.sl 1 0 1 (.c 0) false, .sl 2 0 1 (.c 0) false, .sl 3 0 8 (.c 0) false, .sl 4 0 4 (.c 0) false]
def rdA (x : FD) : List (Nat × Seg) := [(1, ⟨false, false, .rows 1 x.n0 x.R0⟩), (2, ⟨false, false, .rows 1 x.n1 x.R1⟩), (3, ⟨false, false, .rows 8 x.n2 x.R2⟩), (4, ⟨false, false, .rows 4 x.n3 x.R3⟩)]
/-! ### how large the argument is -/
def lz (n l : Int) : Int := bif decide (IntKind.i64.wrap (l - n) < 0) then (-1 : Int) else IntKind.i64.wrap (l - n)
def l0 (x : FD) : Int := lz x.n0 1048576
def l1 (x : FD) : Int := lz x.n1 (l0 x)
def l2 (x : FD) : Int := lz x.n2 (l1 x)
def l3 (x : FD) : Int := lz x.n3 (l2 x)
def sz (x : FD) : Int := bif decide (l0 x < 0) then (-1 : Int) else bif decide (l1 x < 0) then (-1 : Int) else bif decide (l2 x < 0) then (-1 : Int) else bif decide (l3 x < 0) then (-1 : Int) else l3 x
structure Nn (x : FD) : Prop where
  a : 0 ≤ x.n0 ∧ x.n0 ≤ 9223372036854775807
  b : 0 ≤ x.n1 ∧ x.n1 ≤ 9223372036854775807
  c : 0 ≤ x.n2 ∧ x.n2 ≤ 9223372036854775807
  d : 0 ≤ x.n3 ∧ x.n3 ≤ 9223372036854775807
structure Sm (x : FD) : Prop where
  a : 0 ≤ x.n0 ∧ x.n0 ≤ 1048576
  b : 0 ≤ x.n1 ∧ x.n1 ≤ 1048576
  c : 0 ≤ x.n2 ∧ x.n2 ≤ 1048576
  d : 0 ≤ x.n3 ∧ x.n3 ≤ 1048576
theorem lz_eq {n l : Int} (h0 : 0 ≤ n) (h1 : n ≤ 9223372036854775807) (h2 : 0 ≤ l) (h3 : l ≤ 1048576) (h : ¬ lz n l < 0) : n ≤ l ∧ lz n l = l - n := by
  unfold lz at h ⊢
  rw [wrap_in (by omega) (by omega)] at h ⊢
  by_cases e : l - n < 0
  · rw [decide_eq_true e] at h
    exact absurd (show (-1 : Int) < 0 by decide) h
  · rw [decide_eq_false e]
    exact ⟨by omega, rfl⟩
theorem sz_small {x : FD} (hn : Nn x) (h : decide (sz x < 0) = false) : Sm x := by
  have h' : ¬ sz x < 0 := of_decide_eq_false h
  unfold sz at h'
  by_cases e0 : l0 x < 0
  · rw [decide_eq_true e0] at h'; exact absurd (show (-1 : Int) < 0 by decide) h'
  rw [decide_eq_false e0] at h'
  by_cases e1 : l1 x < 0
  · rw [decide_eq_true e1] at h'; exact absurd (show (-1 : Int) < 0 by decide) h'
  rw [decide_eq_false e1] at h'
  by_cases e2 : l2 x < 0
  · rw [decide_eq_true e2] at h'; exact absurd (show (-1 : Int) < 0 by decide) h'
  rw [decide_eq_false e2] at h'
  by_cases e3 : l3 x < 0
  · rw [decide_eq_true e3] at h'; exact absurd (show (-1 : Int) < 0 by decide) h'
  obtain ⟨a1, a2⟩ := lz_eq hn.a.1 hn.a.2 (by decide) (Int.le_refl _) e0
  have a3 : l0 x = 1048576 - x.n0 := a2
  have := hn.a.1
  obtain ⟨b1, b2⟩ := lz_eq hn.b.1 hn.b.2 (l := l0 x) (by omega) (by omega) e1
  have b3 : l1 x = l0 x - x.n1 := b2
  have := hn.b.1
  obtain ⟨c1, c2⟩ := lz_eq hn.c.1 hn.c.2 (l := l1 x) (by omega) (by omega) e2
  have c3 : l2 x = l1 x - x.n2 := c2
  have := hn.c.1
  obtain ⟨d1, d2⟩ := lz_eq hn.d.1 hn.d.2 (l := l2 x) (by omega) (by omega) e3
  have := hn.d.1
  exact ⟨by omega, by omega, by omega, by omega⟩
/-! ### what a law of one flat asks for -/
def C0 (x : FD) : Int → List SC := SlFloat32.cpR x.n0 x.R0
def C1 (x : FD) : Int → List SC := SlFloat32.cpR x.n1 x.R1
def C2 (x : FD) : Int → List SC := SlWall.cpR x.n2 x.R2
def C3 (x : FD) : Int → List SC := SlPane.cpR x.n3 x.R3
/-- The flat that is made of it. -/
def FD.fl (x : FD) : Fl := ⟨x.n0, x.n1, x.n2, x.n3, x.n0, x.n1, x.n2, x.n3, C0 x, C1 x, C2 x, C3 x⟩
theorem C0_sh (x : FD) : Shape SlFloat32.ts (C0 x) := SlFloat32.shape_row _ _
theorem C1_sh (x : FD) : Shape SlFloat32.ts (C1 x) := SlFloat32.shape_row _ _
theorem C2_sh (x : FD) : Shape SlWall.ts (C2 x) := SlWall.shape_row _ _
theorem C3_sh (x : FD) : Shape SlPane.ts (C3 x) := SlPane.shape_row _ _
def oC (x : FD) : List Bool := [flatR x.R0, flatR (C0 x), SlFloat32.okN x.n0 x.n0 x.R0, flatR x.R1, flatR (C1 x), SlFloat32.okN x.n1 x.n1 x.R1, flatR x.R2, flatR (C2 x), SlWall.okN x.n2 x.n2 x.R2, flatR x.R3, flatR (C3 x), SlPane.okN x.n3 x.n3 x.R3]
theorem oC_ok {x : FD} (h : Sm x) : AllT (oC x) :=
  AllT.cons x.f0 (AllT.cons (shF (C0_sh x)) (AllT.cons (pB_iff.2 ⟨rfl, h.a.1, h.a.2, SlFloat32.shape_row _ _⟩) (AllT.cons x.f1 (AllT.cons (shF (C1_sh x)) (AllT.cons (pB_iff.2 ⟨rfl, h.b.1, h.b.2, SlFloat32.shape_row _ _⟩)
  (AllT.cons x.f2 (AllT.cons (shF (C2_sh x)) (AllT.cons (pB_iff.2 ⟨rfl, h.c.1, h.c.2, SlWall.shape_row _ _⟩) (AllT.cons x.f3 (AllT.cons (shF (C3_sh x)) (AllT.one' (pB_iff.2 ⟨rfl, h.d.1, h.d.2, SlPane.shape_row _ _⟩))))))))))))
/-- The flat is handed to a call. -/
def oV (x : FD) : List Bool := [flatR (C3 x), flatR (C2 x), flatR (C1 x), flatR (C0 x), x.fl.ok]
theorem fl_ok {x : FD} (h : Sm x) : x.fl.ok = true := pB_iff.2 ⟨rfl, rfl, rfl, rfl, h.a.1, h.a.2, h.c.1, h.c.2, h.d.1, h.d.2, C0_sh x, C1_sh x, C2_sh x, C3_sh x⟩
theorem oV_ok {x : FD} (h : Sm x) : AllT (oV x) := AllT.cons (shF (C3_sh x)) (AllT.cons (shF (C2_sh x)) (AllT.cons (shF (C1_sh x)) (AllT.cons (shF (C0_sh x)) (AllT.one' (fl_ok h)))))
def q0 (O : FOps) (x : FD) : Bool := SlFloat32.eqR O x.n0 x.n0 (C0 x) (C0 x)
def qq1 (O : FOps) (x : FD) : Bool := SlFloat32.eqR O x.n1 x.n1 (C1 x) (C1 x)
def qq2 (O : FOps) (x : FD) : Bool := SlWall.eqR O x.n2 x.n2 (C2 x) (C2 x)
def qq3 (O : FOps) (x : FD) : Bool := SlPane.eqR O x.n3 x.n3 (C3 x) (C3 x)
/-- The flat is as it was. -/
def eqF (O : FOps) (x : FD) : Bool := bif !q0 O x then false else bif !qq1 O x then false else bif !qq2 O x then false else bif !qq3 O x then false else true
theorem eqF_true (x : FD) : eqF fops x = true := by
  unfold eqF q0 qq1 qq2 qq3
  rw [SlFloat32.eqR_self, SlFloat32.eqR_self, SlWall.eqR_self, SlPane.eqR_self]
  rfl
def oE (O : FOps) (x : FD) : List Bool :=
  [flatR (C0 x), flatR (C0 x), SlFloat32.okE' x.n0 x.n0 (C0 x) x.n0 x.n0 (C0 x)] ++ gdB (!q0 O x) [flatR (C1 x), flatR (C1 x), SlFloat32.okE' x.n1 x.n1 (C1 x) x.n1 x.n1 (C1 x)] ++
  gdB (!q0 O x) (gdB (!qq1 O x) [flatR (C2 x), flatR (C2 x), SlWall.okE' x.n2 x.n2 (C2 x) x.n2 x.n2 (C2 x)]) ++
  gdB (!q0 O x) (gdB (!qq1 O x) (gdB (!qq2 O x) [flatR (C3 x), flatR (C3 x), SlPane.okE' x.n3 x.n3 (C3 x) x.n3 x.n3 (C3 x)]))
theorem okE1 {n : Int} {r : Int → List SC} (h0 : 0 ≤ n) (h1 : n ≤ 1048576) (hs : Shape SlFloat32.ts r) : SlFloat32.okE' n n r n n r = true := by
  unfold SlFloat32.okE'
  rw [show pB (n = n ∧ n = n ∧ 0 ≤ n ∧ n ≤ 1048576 ∧ Shape SlFloat32.ts r ∧ Shape SlFloat32.ts r) = true from pB_iff.2 ⟨rfl, rfl, h0, h1, hs, hs⟩, Bool.or_true]
theorem okE2 {n : Int} {r : Int → List SC} (h0 : 0 ≤ n) (h1 : n ≤ 1048576) (hs : Shape SlWall.ts r) : SlWall.okE' n n r n n r = true := by
  unfold SlWall.okE'
  rw [show pB (n = n ∧ n = n ∧ 0 ≤ n ∧ n ≤ 1048576 ∧ Shape SlWall.ts r ∧ Shape SlWall.ts r) = true from pB_iff.2 ⟨rfl, rfl, h0, h1, hs, hs⟩, Bool.or_true]
theorem okE3 {n : Int} {r : Int → List SC} (h0 : 0 ≤ n) (h1 : n ≤ 1048576) (hs : Shape SlPane.ts r) : SlPane.okE' n n r n n r = true := by
  unfold SlPane.okE'
  rw [show pB (n = n ∧ n = n ∧ 0 ≤ n ∧ n ≤ 1048576 ∧ Shape SlPane.ts r ∧ Shape SlPane.ts r) = true from pB_iff.2 ⟨rfl, rfl, h0, h1, hs, hs⟩, Bool.or_true]
theorem oE_ok {x : FD} (h : Sm x) (O : FOps) : AllT (oE O x) := by
  refine AllT.app (AllT.app (AllT.app ?_ (gdB_ok fun _ => ?_)) (gdB_ok fun _ => gdB_ok fun _ => ?_)) (gdB_ok fun _ => gdB_ok fun _ => gdB_ok fun _ => ?_)
  · exact AllT.cons (shF (C0_sh x)) (AllT.cons (shF (C0_sh x)) (AllT.one' (okE1 h.a.1 h.a.2 (C0_sh x))))
  · exact AllT.cons (shF (C1_sh x)) (AllT.cons (shF (C1_sh x)) (AllT.one' (okE1 h.b.1 h.b.2 (C1_sh x))))
  · exact AllT.cons (shF (C2_sh x)) (AllT.cons (shF (C2_sh x)) (AllT.one' (okE2 h.c.1 h.c.2 (C2_sh x))))
  · exact AllT.cons (shF (C3_sh x)) (AllT.cons (shF (C3_sh x)) (AllT.one' (okE3 h.d.1 h.d.2 (C3_sh x))))
/-- A law whose answer is plain; 'T': the answers differ. -/
def obP (O : FOps) (x : FD) (Ss Si : List Bool) (T : Bool) : List Bool := [!decide (sz x < 0)] ++ (oC x ++ Ss) ++ (oC x ++ Si) ++ [!T] ++ oC x ++ oE O x ++ [!!eqF O x]
theorem obP_ok {x : FD} (h : Sm x) (hz : decide (sz x < 0) = false) {Ss Si : List Bool} (hs : AllT Ss) (hi : AllT Si) {T : Bool} (hT : T = false) : AllT (obP fops x Ss Si T) := by
  have c := oC_ok h
  have e := oE_ok h fops
  unfold obP
  rw [hz, hT, eqF_true]
  simp only [AllT.iffApp]
  exact ⟨⟨⟨⟨⟨⟨AllT.one' rfl, c, hs⟩, c, hi⟩, AllT.one' rfl⟩, c⟩, e⟩, AllT.one' rfl⟩
end
end Go.Proofs.Ytaoeigofmfpamaa.Fla
end

/- Sums over a flat. Nothing is assumed. -/
section
namespace Go.Proofs.Ytaoeigofmfpamaa.Fla
open Go Fla
noncomputable section
/-- The numbers of rows. -/
def mkFD (r0 r1 r2 r3 : Int → List SC) (n0 n1 n2 n3 : Int) : FD := ⟨datF r0, datF r1, datF r2, datF r3, datG r0, datG r1, datG r2, datG r3, n0, n1, n2, n3⟩
def daR (r0 r1 r2 r3 : Int → List SC) (n0 n1 n2 n3 : Int) : List LD := [.i n3, .r r3, .i n2, .r r2, .i n1, .r r1, .i n0, .r r0, .i n0, .i n1, .i n2, .i n3]
theorem daA_eq {r0 r1 r2 r3 : Int → List SC} {n0 n1 n2 n3 : Int} (s0 : Shape SlFloat32.ts r0) (s1 : Shape SlFloat32.ts r1) (s2 : Shape SlWall.ts r2) (s3 : Shape SlPane.ts r3) : daA (mkFD r0 r1 r2 r3 n0 n1 n2 n3) = daR r0 r1 r2 r3 n0 n1 n2 n3 := by
  unfold daA daR FD.R0 FD.R1 FD.R2 FD.R3 mkFD
  rw [← (show r0 = SlFloat32.Row (datF r0) (datG r0) from s0), ← (show r1 = SlFloat32.Row (datF r1) (datG r1) from s1), ← (show r2 = SlWall.Row (datF r2) (datG r2) from s2), ← (show r3 = SlPane.Row (datF r3) (datG r3) from s3)]
def fl4 (x : FD) : List Bool := [flatR x.R3, flatR x.R2, flatR x.R1, flatR x.R0]
theorem fl4_ok (x : FD) : AllT (fl4 x) := AllT.cons x.f3 (AllT.cons x.f2 (AllT.cons x.f1 (AllT.one' x.f0)))
/-- A sum that keeps to something. -/
theorem fold_loopsI {cx : Cx} {N : Nat} {lp : Nat → Option (List Ly → Top → Option Outs)} {c : Code} {nx0 mx : Nat} {sk : Sk} {S : Type} {skE : Sk} {D : Int → S → List LD} {E : S → List LD} {f : Int → S → S} {n : Int} {xE : XK} (I : Int → S → Prop)
    (h0 : ∀ k s, 0 ≤ k → k < n → I k s → I (k + 1) (f k s))
    (h1 : ∀ k s, 0 ≤ k → k < n → I k s → Goes cx N lp c nx0 mx sk sk (D k s) none (D (k + 1) (f k s)))
    (h3 : ∀ s, Goes cx N lp c nx0 mx sk skE (D n s) (some xE) (E s)) : ∀ (m : Nat) (k : Int) (s : S), 0 ≤ k → k + m = n → I k s →
    Loops cx N lp c nx0 mx sk (D k s) xE skE (E (foldFrom f k m s)) := by
  intro m
  induction m with
  | zero =>
    intro k s hk hkn _
    have e : k = n := by omega
    subst e
    exact (h3 s).done
  | succ m ih =>
    intro k s hk hkn hi
    exact (h1 k s hk (by omega) hi).step (ih (k + 1) (f k s) (by omega) (by omega) (h0 k s hk (by omega) hi))
def xFD (x : Fl) : FD := mkFD x.r0 x.r1 x.r2 x.r3 x.n0 x.n1 x.n2 x.n3
def flR (x : Fl) : List Bool := [flatR x.r3, flatR x.r2, flatR x.r1, flatR x.r0]
theorem flR_ok {x : Fl} (h : x.ok = true) : AllT (flR x) := by
  obtain ⟨_, _, _, _, _, _, _, _, _, _, s0, s1, s2, s3⟩ := pB_iff.1 h
  exact AllT.cons (shF s3) (AllT.cons (shF s2) (AllT.cons (shF s1) (AllT.one' (shF s0))))
theorem okd2 {x : Fl} (h : x.ok = true) : Okd x.n3 x.n2 x.n1 x.n0 x.n0 x.n1 x.n2 x.n3 x.r0 x.r1 x.r2 x.r3 := by
  obtain ⟨_, _, _, _, h'⟩ := pB_iff.1 h
  exact ⟨rfl, rfl, rfl, rfl, h'⟩
theorem v4_true {g a b c : Bool} (h : v4 g a b c = true) : g = false ∧ a = true ∧ b = true ∧ c = true := by
  cases g <;> cases a <;> cases b <;> cases c <;> first | exact ⟨rfl, rfl, rfl, rfl⟩ | cases h
theorem vF_true {O : FOps} {x : Fl} (h : vF O x = true) : rgI x.n0 x.n1 x.n2 x.n3 = false ∧ e1 O x = true ∧ e2 O x = true ∧ e3 O x = true := v4_true h
theorem nb {b : Bool} (h : (!b) = false) : b = true := by cases b <;> first | rfl | cases h
end
end Go.Proofs.Ytaoeigofmfpamaa.Fla
end

/- A loop whose rounds have contexts of their own. Nothing is assumed. -/
section
namespace Go.Proofs.Ytaoeigofmfpamaa
open Go
noncomputable section
/-- From data at the loop's head to a way out and its data; each round in a context of its own. -/
inductive LoopsX (P : Program) (N : Nat) (x : Code) (nx0 mx : Nat) (sk : Sk) : List LD → XK → Sk → List LD → Prop where
  | step {cx : Cx} {h : Hn} {p p' : List LD} {xk : XK} {skE : Sk} {pE : List LD} {ρ : List (Nat × Nat)} {ob : List Bool} : CodeOK P N x (sx cx N h x) → goL cx N h x nx0 mx sk ρ sk p = some (none, p', ob) → AllT ob → LoopsX P N x nx0 mx sk p' xk skE pE → LoopsX P N x nx0 mx sk p xk skE pE
  | done {cx : Cx} {h : Hn} {p : List LD} {xk : XK} {skE : Sk} {pE : List LD} {ρ : List (Nat × Nat)} {ob : List Bool} : CodeOK P N x (sx cx N h x) → goL cx N h x nx0 mx sk ρ skE p = some (some xk, pE, ob) → AllT ob → LoopsX P N x nx0 mx sk p xk skE pE
  | stepJ {cx : Cx} {h : Hn} {p p' : List LD} {xk : XK} {skE : Sk} {pE : List LD} {j : Nat} {ρ : List (Nat × Nat)} {ob : List Bool} : CodeOK P N x (sx cx N h x) → goJ cx N h x j nx0 mx sk ρ sk p = some (none, p', ob) → AllT ob → LoopsX P N x nx0 mx sk p' xk skE pE → LoopsX P N x nx0 mx sk p xk skE pE
  | doneJ {cx : Cx} {h : Hn} {p : List LD} {xk : XK} {skE : Sk} {pE : List LD} {j : Nat} {ρ : List (Nat × Nat)} {ob : List Bool} : CodeOK P N x (sx cx N h x) → goJ cx N h x j nx0 mx sk ρ skE p = some (some xk, pE, ob) → AllT ob → LoopsX P N x nx0 mx sk p xk skE pE
section
variable {P : Program} {N : Nat} {x : Code} {nx0 mx : Nat} {sk : Sk}
theorem loopsX_wp {Lim : Rg} {w0 : World} {T0 : Nat → Nat → Prop} {E0 : EM} {p : List LD} {xk : XK} {skE : Sk} {pE : List LD} (hL : LoopsX P N x nx0 mx sk p xk skE pE)
    (h3 : mx ≤ Lim.lim) (h4 : ∀ i, nx0 ≤ i → i < Lim.lim → E0 i = none) (h5 : Lim.base ≤ nx0) {R : List Ly} {kt ks : List Nat} (hkt : ∀ t, t ∉ kt → getT R t = .undef) (hks : ∀ i, i ∉ ks → getS R i = none)
    {va : List (Nat × SV)} {vb : List (Nat × Option Seg)} {p' : List LD} (hva : bTs skE.tms pE = some (va, p')) (hvb : bSs skE.segs p' = some (vb, [])) :
    ∃ n, ∀ E a w, Ext E0 E → StR N Lim w0 T0 sk p E a w → Code.rounds P x (Post N Lim w0 T0 E0 R (some xk) (onT N kt ks mx va vb)) n a w := by
  induction hL with
  | done hx hgo hob =>
    refine ⟨1, fun E a w he hr => ?_⟩
    obtain ⟨g1, g2, g3, g4, g5, g6⟩ := goL_ok hx hgo hob he hr h3
    rw [rounds_succ]
    refine wp_mono g1 fun e a' w' hp => ?_
    obtain ⟨rfl, E', tm, sg, next, ob', he', hr', hm, hob', hn⟩ := hp
    obtain ⟨va', vb', p'', k1, k2, E'', k3, k4⟩ := on_srel (R := R) (kt := kt) (ks := ks) (nx := mx) hr' he' hm hob' g2 g4 g5 (Nat.le_trans g5 h3) (Nat.le_trans hn h3) h4 h5 g6 hkt hks
    rw [hva] at k1; cases k1
    rw [hvb] at k2; cases k2
    rename_i xk _ _ _ _
    have hP : Post N Lim w0 T0 E0 R (some xk) (onT N kt ks mx va vb) (exitOf (some xk)) a' w' := ⟨rfl, E'', k3, by rw [onT_next]; exact k4⟩
    cases xk <;> exact hP
  | step hx hgo hob _ ih =>
    obtain ⟨n, hn⟩ := ih hva hvb
    refine ⟨n + 1, fun E a w he hr => ?_⟩
    obtain ⟨g1, g2, g3, g4, g5, g6⟩ := goL_ok hx hgo hob he hr h3
    rw [rounds_succ]
    refine wp_mono g1 fun e a' w' hp => ?_
    obtain ⟨rfl, hp⟩ := hp
    obtain ⟨E', he', hr'⟩ := hp.st g2 g4 g5 h3 h4 h5 g6
    exact hn E' a' w' he' hr'
  | doneJ hx hgo hob =>
    refine ⟨1, fun E a w he hr => ?_⟩
    obtain ⟨g1, g2, g3, g4, g5, g6⟩ := goJ_ok hx hgo hob he hr h3
    rw [rounds_succ]
    refine wp_mono g1 fun e a' w' hp => ?_
    obtain ⟨rfl, E', tm, sg, next, ob', he', hr', hm, hob', hn⟩ := hp
    obtain ⟨va', vb', p'', k1, k2, E'', k3, k4⟩ := on_srel (R := R) (kt := kt) (ks := ks) (nx := mx) hr' he' hm hob' g2 g4 g5 (Nat.le_trans g5 h3) (Nat.le_trans hn h3) h4 h5 g6 hkt hks
    rw [hva] at k1; cases k1
    rw [hvb] at k2; cases k2
    rename_i xk _ _ _ _ _
    have hP : Post N Lim w0 T0 E0 R (some xk) (onT N kt ks mx va vb) (exitOf (some xk)) a' w' := ⟨rfl, E'', k3, by rw [onT_next]; exact k4⟩
    cases xk <;> exact hP
  | stepJ hx hgo hob _ ih =>
    obtain ⟨n, hn⟩ := ih hva hvb
    refine ⟨n + 1, fun E a w he hr => ?_⟩
    obtain ⟨g1, g2, g3, g4, g5, g6⟩ := goJ_ok hx hgo hob he hr h3
    rw [rounds_succ]
    refine wp_mono g1 fun e a' w' hp => ?_
    obtain ⟨rfl, hp⟩ := hp
    obtain ⟨E', he', hr'⟩ := hp.st g2 g4 g5 h3 h4 h5 g6
    exact hn E' a' w' he' hr'
theorem loopX_ok {ρ : List (Nat × Nat)} {F : List LD → Option (XO × List Bool)} 
    (hF : ∀ p r, F p = some r → AllT r.2 → ∃ xk skE pE, pickX r.1 = some (xk, skE, pE) ∧ LoopsX P N x nx0 mx sk p xk skE pE) : CodeOK P N (.loop x) (loopL N nx0 mx sk ρ F) := by
  intro R T o ho hob
  unfold loopL at ho
  split at ho <;> try (cases ho; done)
  rename_i hc
  simp only [Bool.and_eq_true, Nat.ble_eq, beqN] at hc
  obtain ⟨c1, c2, c3, c4, c5⟩ := hc
  obtain ⟨p, hm, ho⟩ := bindO_some ho
  obtain ⟨r, hr, ho⟩ := bindO_some ho
  obtain ⟨l, hl, hsel⟩ := exitsK_some ho
  cases hl
  obtain ⟨hob1, hob2⟩ := hob.append
  obtain ⟨xk, skE, pE, h1, h2⟩ := hF p.1 r hr hob2
  obtain ⟨va, vb, p', g1, g2, g3⟩ := hsel xk skE pE h1
  refine ⟨some xk, _, g3, by rw [onT_next]; omega, fun Lim w0 T0 E a w hs hlim => ?_⟩
  rw [onT_next] at hlim
  have hfresh : ∀ i, nx0 ≤ i → i < Lim.lim → E i = none := fun i hi1 hi2 => hs.fresh i (by omega) hi2
  have hbn : Lim.base ≤ nx0 := by have := hs.bn; omega
  obtain ⟨n, hn⟩ := loopsX_wp (w0 := w0) (T0 := T0) (E0 := E) h2 hlim hfresh hbn (R := R) (kt := keysT R) (ks := keysS R) (fun t => keysT_ok) (fun i => keysS_ok) g1 g2
  obtain ⟨va', vb', p'', k1, k2, E'', k3, k4⟩ := on_srel (R := []) (kt := []) (ks := []) (nx := sk.next) hs (Ext.refl E) hm hob1 c2 c3 (Nat.le_refl _) (by omega) (by omega) hfresh hbn c5 (fun _ _ => rfl) (fun _ _ => rfl)
  exact wp_loop_rounds n (hn E'' a w k3 ⟨va', vb', p'', k1, k2, k4⟩)
end
/-- A loop's body, some of whose own loops are told of. -/
theorem bodyL_ok {P : Program} {l : List (Nat × CS)} (ha : AllOK P l) (hmx : P.follows .mixedOrders = true) (n : Nat) {N : Nat} {x : Code} (ts : Nat → Option Bool) {ls : LS} (h1 : onceB (loopsIn x) = true) (h2 : LoopsOK P N x ls) : CodeOK P N x (sx ⟨P, fops, orcN P fops l n⟩ N ⟨ts, lpOf ls⟩ x) :=
  sx_ok (cx := ⟨P, fops, orcN P fops l n⟩) rfl (orcN_ok ha hmx n) hmx x (fun b hm L h => by
    obtain ⟨b', k1, k2⟩ := h2.get _ L h
    rw [loopAt_mem h1 hm] at k1
    cases k1
    exact k2)
end
end Go.Proofs.Ytaoeigofmfpamaa
end

/- The longest time of a calm step: impl.LongestTime's sums for a room. Nothing is assumed. -/
section
namespace Go.Proofs.Ytaoeigofmfpamaa.Lt
open Go Fla
noncomputable section
/-- The times, as they are told. -/
def RowT (v : Int → Nat) : Int → List SC := rowK [.flt .f32] (fun _ j => v j) (fun _ _ => 0)
theorem RowT_flat (v : Int → Nat) : flatR (RowT v) = true := rowK_flat _ _ _
def sgT : List (Nat × KS) := sgA true ++ [(182, ⟨true, true, .rows 1⟩)]
def tD (x : FD) (M : Int) (ro : Int → List SC) : List LD := daA x ++ [.i M, .r ro]
def flT (x : FD) (ro : Int → List SC) : List Bool := fl4 x ++ [flatR ro]
theorem flT_ok (x : FD) {ro : Int → List SC} (h : flatR ro = true) : AllT (flT x ro) := AllT.app (fl4_ok x) (AllT.one' h)
def or2 (a b : Bool) : Bool := bif a then true else b
def fW (O : FOps) (x : FD) (i : Int) (k : Int) (s : Nat) : Nat := bif or2 (decide (x.G2 0 k = i)) (decide (x.G2 1 k = i)) then O.bin .add .f32 s (O.bin .mul .f32 1073741824 (x.F2 2 k)) else s
def fP (O : FOps) (x : FD) (i : Int) (k : Int) (s : Nat) : Nat := bif or2 (decide (x.G3 0 k = i)) (decide (x.G3 1 k = i)) then O.bin .add .f32 s (x.F3 2 k) else s
noncomputable def NI : Nat := Try.f11.ntmps
def tmR : List (Nat × KV) := [(1, .c (.ptr 5 0)), (4, .c (.sl 182 0 1 true)), (5, .c (.int .i64)), (6, .c (.flt .f32)), (7, .c (.flt .f32)), (22, .c (.sl 3 0 1 false)), (23, .c (.int .i64)), (24, .c (.int .i64))]
def hdT (x : FD) (M i k : Int) (s l : Nat) : List LD := [.i M, .i i, .f s, .f l, .i x.n1, .i x.n1, .i k]

/-! ### loop 9 -/
def wk : Sk := ⟨tmR ++ [(30, .c (.sl 2 0 8 false)), (31, .c (.int .i64)), (32, .c (.int .i64))], sgT, 183⟩
def we : Sk := ⟨tmR, sgT, 183⟩
def wD (x : FD) (M i k : Int) (ro : Int → List SC) (s : Nat) (j : Int) (l : Nat) : List LD := hdT x M i k s l ++ [.i x.n2, .i x.n2, .i j] ++ tD x M ro
def wE (x : FD) (M i k : Int) (ro : Int → List SC) (s : Nat) (l : Nat) : List LD := hdT x M i k s l ++ tD x M ro
def wg (O : FOps) (u : Bool) (sk : Sk) (x : FD) (M i k : Int) (ro : Int → List SC) (s : Nat) (j : Int) (l : Nat) : Option (Option XK × List LD × List Bool) := goL (cx0 O) NI ⟨hints [(33, u)], fun _ => none⟩ (bodyOf Try.f11 9) 183 240 wk [] sk (wD x M i k ro s j l)
set_option maxRecDepth 100000 in
theorem wa (O : FOps) (x : FD) (M i k : Int) (ro : Int → List SC) (s : Nat) (j : Int) (l : Nat) : wg O true wk x M i k ro s j l = some (none, wD x M i k ro s (IntKind.i64.wrap (j + 1)) (fW O x i j l), hd3 x.n2 j ++ flT x ro) := by kernel_rfl
set_option maxRecDepth 100000 in
theorem wb (O : FOps) (x : FD) (M i k : Int) (ro : Int → List SC) (s : Nat) (j : Int) (l : Nat) : wg O false we x M i k ro s j l = some (some (.exit 2), wE x M i k ro s l, [!decide (j < x.n2)] ++ flT x ro) := by kernel_rfl
theorem wl (x : FD) (M i k : Int) {ro : Int → List SC} (hro : flatR ro = true) (s : Nat) (hn : x.n2 ≤ 1048576) : ∀ (m : Nat) (j : Int) (l : Nat), 0 ≤ j → j + m = x.n2 →
    Loops (cx0 fops) NI (fun _ => none) (bodyOf Try.f11 9) 183 240 wk (wD x M i k ro s j l) (.exit 2) we (wE x M i k ro s (foldFrom (fW fops x i) j m l)) := by
  refine fold_loops (D := wD x M i k ro s) (n := x.n2) (fun j l hk hlt => ?_) (fun l => ?_)
  · have r := wa fops x M i k ro s j l
    rw [wrap_succ hk (by omega)] at r
    exact .mk _ (ρ := []) r (AllT.app (hd3_ok hk hlt) (flT_ok x hro))
  · exact .mk _ (ρ := []) (wb fops x M i k ro s x.n2 l) (AllT.app (AllT.one' (by simp)) (flT_ok x hro))
def wP (M' M m1 m2 l1 l2 j N3 N2 N1 N0 n0 n1 n2 n3 : Int) (ro r0 r1 r2 r3 : Int → List SC) : Prop := M' = M ∧ m1 = n1 ∧ m2 = n1 ∧ l1 = n2 ∧ l2 = n2 ∧ j = 0 ∧ flatR ro = true ∧ Okd N3 N2 N1 N0 n0 n1 n2 n3 r0 r1 r2 r3
def wF (O : FOps) : List LD → Option (XO × List Bool)
  | [.i M', .i i, .f s, .f l, .i m1, .i m2, .i k, .i l1, .i l2, .i j, .i N3, .r r3, .i N2, .r r2, .i N1, .r r1, .i N0, .r r0, .i n0, .i n1, .i n2, .i n3, .i M, .r ro] =>
    some ([(.t, .exit 2, we, [.i M, .i i, .f s, .f (foldFrom (fW O (mkFD r0 r1 r2 r3 n0 n1 n2 n3) i) 0 n2.toNat l), .i n1, .i n1, .i k] ++ (daR r0 r1 r2 r3 n0 n1 n2 n3 ++ [.i M, .r ro]))], [pB (wP M' M m1 m2 l1 l2 j N3 N2 N1 N0 n0 n1 n2 n3 ro r0 r1 r2 r3)])
  | _ => none
def wL (O : FOps) : List Ly → Top → Option Outs := loopL NI 183 240 wk [] (wF O)
theorem wO : CodeOK Try.prog NI (.loop (bodyOf Try.f11 9)) (wL fops) := loopL_ok (cx := cx0 fops) (lp := fun _ => none) (fun ts => body_ok (l := L0) okL0 mixed 8 _ ts) fun p r hr hob => by
  unfold wF at hr
  split at hr <;> cases hr
  rename_i M' i s l m1 m2 k l1 l2 j N3 r3 N2 r2 N1 r1 N0 r0 n0 n1 n2 n3 M ro
  obtain ⟨e0, e1, e2, e3, e4, ej, hro, eN0, eN1, eN2, eN3, b0, c0, b2, c2, b3, c3, s0, s1, s2, s3⟩ := pB_iff.1 hob.head
  rw [e0, e1, e2, e3, e4, ej, eN0, eN1, eN2, eN3]
  have E := daA_eq (n0 := n0) (n1 := n1) (n2 := n2) (n3 := n3) s0 s1 s2 s3
  have h := wl (mkFD r0 r1 r2 r3 n0 n1 n2 n3) M i k hro s c2 n2.toNat 0 l (by decide) (by show (0 : Int) + (n2.toNat : Nat) = n2; omega)
  unfold wD wE tD at h
  rw [E] at h
  exact ⟨.exit 2, we, _, rfl, h⟩
/-! ### loop 15 -/
def pk : Sk := ⟨tmR ++ [(53, .c (.sl 1 0 4 false)), (54, .c (.int .i64)), (55, .c (.int .i64))], sgT, 240⟩
def pe : Sk := ⟨tmR, sgT, 240⟩
def pD (x : FD) (M i k : Int) (ro : Int → List SC) (s : Nat) (j : Int) (l : Nat) : List LD := hdT x M i k s l ++ [.i x.n3, .i x.n3, .i j] ++ tD x M ro
def pE (x : FD) (M i k : Int) (ro : Int → List SC) (s : Nat) (l : Nat) : List LD := hdT x M i k s l ++ tD x M ro
def pg (O : FOps) (u : Bool) (sk : Sk) (x : FD) (M i k : Int) (ro : Int → List SC) (s : Nat) (j : Int) (l : Nat) : Option (Option XK × List LD × List Bool) := goL (cx0 O) NI ⟨hints [(56, u)], fun _ => none⟩ (bodyOf Try.f11 15) 240 300 pk [] sk (pD x M i k ro s j l)
set_option maxRecDepth 100000 in
theorem pa (O : FOps) (x : FD) (M i k : Int) (ro : Int → List SC) (s : Nat) (j : Int) (l : Nat) : pg O true pk x M i k ro s j l = some (none, pD x M i k ro s (IntKind.i64.wrap (j + 1)) (fP O x i j l), hd3 x.n3 j ++ flT x ro) := by kernel_rfl
set_option maxRecDepth 100000 in
theorem pb (O : FOps) (x : FD) (M i k : Int) (ro : Int → List SC) (s : Nat) (j : Int) (l : Nat) : pg O false pe x M i k ro s j l = some (some (.exit 4), pE x M i k ro s l, [!decide (j < x.n3)] ++ flT x ro) := by kernel_rfl
theorem pl (x : FD) (M i k : Int) {ro : Int → List SC} (hro : flatR ro = true) (s : Nat) (hn : x.n3 ≤ 1048576) : ∀ (m : Nat) (j : Int) (l : Nat), 0 ≤ j → j + m = x.n3 →
    Loops (cx0 fops) NI (fun _ => none) (bodyOf Try.f11 15) 240 300 pk (pD x M i k ro s j l) (.exit 4) pe (pE x M i k ro s (foldFrom (fP fops x i) j m l)) := by
  refine fold_loops (D := pD x M i k ro s) (n := x.n3) (fun j l hk hlt => ?_) (fun l => ?_)
  · have r := pa fops x M i k ro s j l
    rw [wrap_succ hk (by omega)] at r
    exact .mk _ (ρ := []) r (AllT.app (hd3_ok hk hlt) (flT_ok x hro))
  · exact .mk _ (ρ := []) (pb fops x M i k ro s x.n3 l) (AllT.app (AllT.one' (by simp)) (flT_ok x hro))
def pP (M' M m1 m2 l1 l2 j N3 N2 N1 N0 n0 n1 n2 n3 : Int) (ro r0 r1 r2 r3 : Int → List SC) : Prop := M' = M ∧ m1 = n1 ∧ m2 = n1 ∧ l1 = n3 ∧ l2 = n3 ∧ j = 0 ∧ flatR ro = true ∧ Okd N3 N2 N1 N0 n0 n1 n2 n3 r0 r1 r2 r3
def pF (O : FOps) : List LD → Option (XO × List Bool)
  | [.i M', .i i, .f s, .f l, .i m1, .i m2, .i k, .i l1, .i l2, .i j, .i N3, .r r3, .i N2, .r r2, .i N1, .r r1, .i N0, .r r0, .i n0, .i n1, .i n2, .i n3, .i M, .r ro] =>
    some ([(.t, .exit 4, pe, [.i M, .i i, .f s, .f (foldFrom (fP O (mkFD r0 r1 r2 r3 n0 n1 n2 n3) i) 0 n3.toNat l), .i n1, .i n1, .i k] ++ (daR r0 r1 r2 r3 n0 n1 n2 n3 ++ [.i M, .r ro]))], [pB (pP M' M m1 m2 l1 l2 j N3 N2 N1 N0 n0 n1 n2 n3 ro r0 r1 r2 r3)])
  | _ => none
def pL (O : FOps) : List Ly → Top → Option Outs := loopL NI 240 300 pk [] (pF O)
theorem pO : CodeOK Try.prog NI (.loop (bodyOf Try.f11 15)) (pL fops) := loopL_ok (cx := cx0 fops) (lp := fun _ => none) (fun ts => body_ok (l := L0) okL0 mixed 8 _ ts) fun p r hr hob => by
  unfold pF at hr
  split at hr <;> cases hr
  rename_i M' i s l m1 m2 k l1 l2 j N3 r3 N2 r2 N1 r1 N0 r0 n0 n1 n2 n3 M ro
  obtain ⟨e0, e1, e2, e3, e4, ej, hro, eN0, eN1, eN2, eN3, b0, c0, b2, c2, b3, c3, s0, s1, s2, s3⟩ := pB_iff.1 hob.head
  rw [e0, e1, e2, e3, e4, ej, eN0, eN1, eN2, eN3]
  have E := daA_eq (n0 := n0) (n1 := n1) (n2 := n2) (n3 := n3) s0 s1 s2 s3
  have h := pl (mkFD r0 r1 r2 r3 n0 n1 n2 n3) M i k hro s c3 n3.toNat 0 l (by decide) (by show (0 : Int) + (n3.toNat : Nat) = n3; omega)
  unfold pD pE tD at h
  rw [E] at h
  exact ⟨.exit 4, pe, _, rfl, h⟩
end
end Go.Proofs.Ytaoeigofmfpamaa.Lt
end

/- The longest time of a calm step: impl.LongestTime's rooms. Nothing is assumed. -/
section
namespace Go.Proofs.Ytaoeigofmfpamaa.Lt
open Go Fla
noncomputable section
def apT (ro : Int → List SC) (M : Int) (t : Nat) (j : Int) : List SC := bif decide (j < M) then ro j else [.flt .f32 t]
def apv (v : Int → Nat) (M : Int) (t : Nat) (j : Int) : Nat := bif decide (j < M) then v j else t
theorem apT_row (v : Int → Nat) (M : Int) (t : Nat) : apT (RowT v) M t = RowT (apv v M t) := by
  funext j
  unfold apT apv
  show _ = [SC.flt .f32 (bif decide (j < M) then v j else t)]
  cases decide (j < M) <;> rfl
def oIk : Sk := ⟨[(1, .c (.ptr 5 0)), (4, .c (.sl 182 0 1 true)), (22, .c (.sl 3 0 1 false)), (23, .c (.int .i64)), (24, .c (.int .i64))], sgT, 183⟩
def oIe : Sk := ⟨[(1, .c (.ptr 5 0)), (4, .c (.sl 182 0 1 true))], sgT, 183⟩
def oID (x : FD) (M k : Int) (ro : Int → List SC) : List LD := [.i M, .i x.n1, .i x.n1, .i k] ++ tD x M ro
def oIE (x : FD) (M : Int) (ro : Int → List SC) : List LD := [.i M] ++ tD x M ro
/-- What leads into a room. -/
def lead (O : FOps) (x : FD) (i : Int) : Nat := foldFrom (fP O x i) 0 x.n3.toNat (foldFrom (fW O x i) 0 x.n2.toNat 0)
def tmI (O : FOps) (x : FD) (i : Int) : Nat := O.bin .quo .f32 (x.F1 0 i) (lead O x i)
def ndI (O : FOps) (x : FD) (i : Int) : Bool := O.cmp .neq .f32 (lead O x i) 0
def oIg (O : FOps) (h : List (Nat × Bool)) (ρ : List (Nat × Nat)) (sk : Sk) (x : FD) (M k : Int) (ro : Int → List SC) : Option (Option XK × List LD × List Bool) := goL (cx0 O) NI ⟨hints h, lpOf [(9, wL O), (15, pL O)]⟩ (bodyOf Try.f11 5) 182 400 oIk ρ sk (oID x M k ro)
def wI (x : FD) (M : Int) (ro : Int → List SC) : List Bool := flT x ro ++ [pB (wP M M x.n1 x.n1 x.n2 x.n2 0 x.n3 x.n2 x.n1 x.n0 x.n0 x.n1 x.n2 x.n3 ro x.R0 x.R1 x.R2 x.R3)]
def pI (x : FD) (M : Int) (ro : Int → List SC) : List Bool := flT x ro ++ [pB (pP M M x.n1 x.n1 x.n3 x.n3 0 x.n3 x.n2 x.n1 x.n0 x.n0 x.n1 x.n2 x.n3 ro x.R0 x.R1 x.R2 x.R3)]
def mI (M : Int) : Bool := decide (0 ≤ M ∧ M ≤ M ∧ M ≤ 999999)
set_option maxRecDepth 100000 in
theorem oIA (O : FOps) (x : FD) (M k : Int) (ro : Int → List SC) : oIg O [(25, true), (75, true)] [(301, 182)] oIk x M k ro = some (none, oID x (M + 1) (IntKind.i64.wrap (k + 1)) (apT ro M (tmI O x k)), hd3 x.n1 k ++ wI x M ro ++ pI x M ro ++ [ndI O x k, mI M] ++ flT x (apT ro M (tmI O x k))) := by kernel_rfl
set_option maxRecDepth 100000 in
theorem oIB (O : FOps) (x : FD) (M k : Int) (ro : Int → List SC) : oIg O [(25, true), (75, false)] [] oIk x M k ro = some (none, oID x M (IntKind.i64.wrap (k + 1)) ro, hd3 x.n1 k ++ wI x M ro ++ pI x M ro ++ [!ndI O x k] ++ flT x ro) := by kernel_rfl
set_option maxRecDepth 100000 in
theorem oIX (O : FOps) (x : FD) (M k : Int) (ro : Int → List SC) : oIg O [(25, false)] [] oIe x M k ro = some (some (.exit 0), oIE x M ro, [!decide (k < x.n1)] ++ flT x ro) := by kernel_rfl
theorem apT_flat {ro : Int → List SC} (h : flatR ro = true) (M : Int) (t : Nat) : flatR (apT ro M t) = true :=
  @decide_eq_true _ (Classical.propDecidable _) fun j => by
    unfold apT
    cases decide (j < M) with
    | true => exact flatR_ok h j
    | false => rfl
/-- The lengths are what they are told to be. -/
def Okx (x : FD) : Prop := Okd x.n3 x.n2 x.n1 x.n0 x.n0 x.n1 x.n2 x.n3 x.R0 x.R1 x.R2 x.R3
theorem wI_ok {x : FD} (hx : Okx x) {ro : Int → List SC} (h : flatR ro = true) (M : Int) : AllT (wI x M ro) := AllT.app (flT_ok x h) (AllT.one' (pB_iff.2 ⟨rfl, rfl, rfl, rfl, rfl, rfl, h, hx⟩))
theorem pI_ok {x : FD} (hx : Okx x) {ro : Int → List SC} (h : flatR ro = true) (M : Int) : AllT (pI x M ro) := AllT.app (flT_ok x h) (AllT.one' (pB_iff.2 ⟨rfl, rfl, rfl, rfl, rfl, rfl, h, hx⟩))
/-- The list of the times, after one more room. -/
def stp (O : FOps) (x : FD) (k : Int) (p : Int × (Int → List SC)) : Int × (Int → List SC) := bif ndI O x k then (p.1 + 1, apT p.2 p.1 (tmI O x k)) else p
theorem oIl (x : FD) (hx : Okx x) (hn : x.n1 ≤ 900000) : ∀ (m : Nat) (k : Int) (p : Int × (Int → List SC)), 0 ≤ k → k + m = x.n1 → 0 ≤ p.1 → p.1 ≤ k → flatR p.2 = true →
    LoopsX Try.prog NI (bodyOf Try.f11 5) 182 400 oIk (oID x p.1 k p.2) (.exit 0) oIe (oIE x (foldFrom (stp fops x) k m p).1 (foldFrom (stp fops x) k m p).2) := by
  have hb : ∀ ts, CodeOK Try.prog NI (bodyOf Try.f11 5) (sx (cx0 fops) NI ⟨ts, lpOf [(9, wL fops), (15, pL fops)]⟩ (bodyOf Try.f11 5)) := fun ts => by
    have h1 : onceB (loopsIn (bodyOf Try.f11 5)) = true := by kernel_rfl
    have h2 : loopAt 9 (loopsIn (bodyOf Try.f11 5)) = some (bodyOf Try.f11 9) := by kernel_rfl
    have h3 : loopAt 15 (loopsIn (bodyOf Try.f11 5)) = some (bodyOf Try.f11 15) := by kernel_rfl
    exact bodyL_ok (l := L0) okL0 mixed 8 ts h1 ⟨⟨_, h2, wO⟩, ⟨_, h3, pO⟩, trivial⟩
  intro m
  induction m with
  | zero =>
    intro k p hk hkn h0 h1 hf
    have e : k = x.n1 := by omega
    subst e
    exact .done (ρ := []) (hb _) (oIX fops x p.1 x.n1 p.2) (AllT.app (AllT.one' (by simp)) (flT_ok x hf))
  | succ m ih =>
    intro k p hk hkn h0 h1 hf
    have hlt : k < x.n1 := by omega
    have hh := AllT.app (AllT.app (hd3_ok hk hlt) (wI_ok hx hf p.1)) (pI_ok hx hf p.1)
    have hE : foldFrom (stp fops x) k (m + 1) p = foldFrom (stp fops x) (k + 1) m (stp fops x k p) := rfl
    rw [hE]
    cases hd : ndI fops x k with
    | true =>
      have e : stp fops x k p = (p.1 + 1, apT p.2 p.1 (tmI fops x k)) := by unfold stp; rw [hd]; rfl
      rw [e]
      have h := oIA fops x p.1 k p.2
      rw [wrap_succ hk (by omega)] at h
      have hf' := apT_flat hf p.1 (tmI fops x k)
      exact .step (hb _) h (AllT.app (AllT.app hh (AllT.cons hd (AllT.one' (by unfold mI; simp; omega)))) (flT_ok x hf')) (ih (k + 1) (p.1 + 1, apT p.2 p.1 (tmI fops x k)) (by omega) (by omega) (by show (0 : Int) ≤ p.1 + 1; omega) (by show p.1 + 1 ≤ k + 1; omega) hf')
    | false =>
      have e : stp fops x k p = p := by unfold stp; rw [hd]; rfl
      rw [e]
      have h := oIB fops x p.1 k p.2
      rw [wrap_succ hk (by omega)] at h
      exact .step (hb _) h (AllT.app (AllT.app hh (AllT.one' (by rw [hd]; rfl))) (flT_ok x hf)) (ih (k + 1) p (by omega) (by omega) h0 (by omega) hf)
def oP (M' M m1 m2 k N3 N2 N1 N0 n0 n1 n2 n3 : Int) (ro r0 r1 r2 r3 : Int → List SC) : Prop := M' = 0 ∧ M = 0 ∧ m1 = n1 ∧ m2 = n1 ∧ k = 0 ∧ (0 ≤ n1 ∧ n1 ≤ 900000) ∧ flatR ro = true ∧ Okd N3 N2 N1 N0 n0 n1 n2 n3 r0 r1 r2 r3
def oF (O : FOps) : List LD → Option (XO × List Bool)
  | [.i M', .i m1, .i m2, .i k, .i N3, .r r3, .i N2, .r r2, .i N1, .r r1, .i N0, .r r0, .i n0, .i n1, .i n2, .i n3, .i M, .r ro] =>
    some ([(.t, .exit 0, oIe, [.i (foldFrom (stp O (mkFD r0 r1 r2 r3 n0 n1 n2 n3)) 0 n1.toNat (0, ro)).1] ++ (daR r0 r1 r2 r3 n0 n1 n2 n3 ++ [.i (foldFrom (stp O (mkFD r0 r1 r2 r3 n0 n1 n2 n3)) 0 n1.toNat (0, ro)).1, .r (foldFrom (stp O (mkFD r0 r1 r2 r3 n0 n1 n2 n3)) 0 n1.toNat (0, ro)).2]))], [pB (oP M' M m1 m2 k N3 N2 N1 N0 n0 n1 n2 n3 ro r0 r1 r2 r3)])
  | _ => none
def oL (O : FOps) : List Ly → Top → Option Outs := loopL NI 182 400 oIk [(181, 182)] (oF O)
theorem oO : CodeOK Try.prog NI (.loop (bodyOf Try.f11 5)) (oL fops) := loopX_ok fun p r hr hob => by
  unfold oF at hr
  split at hr <;> cases hr
  rename_i M' m1 m2 k N3 r3 N2 r2 N1 r1 N0 r0 n0 n1 n2 n3 M ro
  obtain ⟨e0, e1, e2, e3, ek, ⟨d0, d1⟩, hro, eN0, eN1, eN2, eN3, b0, c0, b2, c2, b3, c3, s0, s1, s2, s3⟩ := pB_iff.1 hob.head
  rw [e0, e1, e2, e3, ek, eN0, eN1, eN2, eN3]
  have E := daA_eq (n0 := n0) (n1 := n1) (n2 := n2) (n3 := n3) s0 s1 s2 s3
  have q0 : (mkFD r0 r1 r2 r3 n0 n1 n2 n3).R0 = r0 := (show r0 = _ from s0).symm
  have q1 : (mkFD r0 r1 r2 r3 n0 n1 n2 n3).R1 = r1 := (show r1 = _ from s1).symm
  have q2 : (mkFD r0 r1 r2 r3 n0 n1 n2 n3).R2 = r2 := (show r2 = _ from s2).symm
  have q3 : (mkFD r0 r1 r2 r3 n0 n1 n2 n3).R3 = r3 := (show r3 = _ from s3).symm
  have hx : Okx (mkFD r0 r1 r2 r3 n0 n1 n2 n3) := by
    unfold Okx
    rw [q0, q1, q2, q3]
    exact ⟨rfl, rfl, rfl, rfl, b0, c0, b2, c2, b3, c3, s0, s1, s2, s3⟩
  have h := oIl (mkFD r0 r1 r2 r3 n0 n1 n2 n3) hx d1 n1.toNat 0 (0, ro) (Int.le_refl _) (by show (0 : Int) + (n1.toNat : Nat) = n1; omega) (Int.le_refl _) (Int.le_refl _) hro
  unfold oID oIE tD at h
  rw [E] at h
  exact ⟨_, _, _, rfl, h⟩
end
end Go.Proofs.Ytaoeigofmfpamaa.Lt
end

/- A loop that is entered with more than it needs to know. Nothing is assumed. -/
section
namespace Go.Proofs.Ytaoeigofmfpamaa
open Go
noncomputable section
/-- Segments, told the same or less. -/
inductive LeS : List (Nat × Option Seg) → List (Nat × Option Seg) → Prop where
  | nil : LeS [] []
  | eq (p : Nat × Option Seg) {a b : List (Nat × Option Seg)} : LeS a b → LeS (p :: a) (p :: b)
  | le (i : Nat) {g g' : Seg} {a b : List (Nat × Option Seg)} : SegLe g g' → LeS a b → LeS ((i, some g) :: a) ((i, some g') :: b)
theorem LeS.upd {a b : List (Nat × Option Seg)} (h : LeS a b) : ∀ {f f' : Nat → Option Seg}, (∀ i g', f' i = some g' → ∃ g, f i = some g ∧ SegLe g g') → ∀ i g', updSs f' b i = some g' → ∃ g, updSs f a i = some g ∧ SegLe g g' := by
  induction h with
  | nil => intro f f' hf; exact hf
  | eq p _ ih =>
    intro f f' hf
    refine ih (f := Go.Proofs.Ytaoeigofmfpamaa.upd f p.1 p.2) (f' := Go.Proofs.Ytaoeigofmfpamaa.upd f' p.1 p.2) fun i g' hg => ?_
    by_cases e : i = p.1
    · subst e
      rw [upd_same] at hg ⊢
      exact ⟨g', hg, SegLe.refl _⟩
    · rw [upd_other _ _ e] at hg ⊢
      exact hf i g' hg
  | le j hl _ ih =>
    intro f f' hf
    refine ih (f := Go.Proofs.Ytaoeigofmfpamaa.upd f j (some _)) (f' := Go.Proofs.Ytaoeigofmfpamaa.upd f' j (some _)) fun i g' hg => ?_
    by_cases e : i = j
    · subst e
      rw [upd_same] at hg ⊢
      cases hg
      exact ⟨_, rfl, hl⟩
    · rw [upd_other _ _ e] at hg ⊢
      exact hf i g' hg
/-- What 'p2' tells is told by 'p' too. -/
def WkD (sk : Sk) (p p2 : List LD) : Prop := ∀ va vb p', bTs sk.tms p = some (va, p') → bSs sk.segs p' = some (vb, []) → ∃ vb2 p2', bTs sk.tms p2 = some (va, p2') ∧ bSs sk.segs p2' = some (vb2, []) ∧ LeS vb vb2
theorem StR.weak {N : Nat} {Lim : Rg} {w0 : World} {T0 : Nat → Nat → Prop} {sk : Sk} {p p2 : List LD} {E : EM} {a : Act} {w : World} (hw : WkD sk p p2) (h : StR N Lim w0 T0 sk p E a w) : StR N Lim w0 T0 sk p2 E a w := by
  obtain ⟨va, vb, p', h1, h2, h3⟩ := h
  obtain ⟨vb2, p2', k1, k2, k3⟩ := hw _ _ _ h1 h2
  refine ⟨va, vb2, p2', k1, k2, ?_⟩
  have e : ∀ b, getT [(onT N [] [] sk.next va b).ly] = getT [((setTs va (setTs [] (anys N (Top.empty sk.next)))).setSs []).ly] := fun b => getT_setSs _ _ _
  have e2 : ∀ b, getS [(onT N [] [] sk.next va b).ly] = updSs (getS [((setTs va (setTs [] (anys N (Top.empty sk.next)))).setSs []).ly]) b := fun b => getS_setSs _ _ _
  exact ⟨by rw [e, ← e vb]; exact h3.tm, h3.size, h3.dfr, by
    rw [e2]
    have := h3.mem
    rw [e2] at this
    exact this.weaken (k3.upd fun i g' hg => ⟨g', hg, SegLe.refl _⟩), h3.news, h3.old, h3.bn, h3.pos⟩
theorem loopW_ok {P : Program} {N : Nat} {x : Code} {nx0 mx : Nat} {sk : Sk} {ρ : List (Nat × Nat)} {F : List LD → Option (XO × List Bool)} 
    (hF : ∀ p r, F p = some r → AllT r.2 → ∃ xk skE pE p2, pickX r.1 = some (xk, skE, pE) ∧ WkD sk p p2 ∧ LoopsX P N x nx0 mx sk p2 xk skE pE) : CodeOK P N (.loop x) (loopL N nx0 mx sk ρ F) := by
  intro R T o ho hob
  unfold loopL at ho
  split at ho <;> try (cases ho; done)
  rename_i hc
  simp only [Bool.and_eq_true, Nat.ble_eq, beqN] at hc
  obtain ⟨c1, c2, c3, c4, c5⟩ := hc
  obtain ⟨p, hm, ho⟩ := bindO_some ho
  obtain ⟨r, hr, ho⟩ := bindO_some ho
  obtain ⟨l, hl, hsel⟩ := exitsK_some ho
  cases hl
  obtain ⟨hob1, hob2⟩ := hob.append
  obtain ⟨xk, skE, pE, p2, h1, hw, h2⟩ := hF p.1 r hr hob2
  obtain ⟨va, vb, p', g1, g2, g3⟩ := hsel xk skE pE h1
  refine ⟨some xk, _, g3, by rw [onT_next]; omega, fun Lim w0 T0 E a w hs hlim => ?_⟩
  rw [onT_next] at hlim
  have hfresh : ∀ i, nx0 ≤ i → i < Lim.lim → E i = none := fun i hi1 hi2 => hs.fresh i (by omega) hi2
  have hbn : Lim.base ≤ nx0 := by have := hs.bn; omega
  obtain ⟨n, hn⟩ := loopsX_wp (w0 := w0) (T0 := T0) (E0 := E) h2 hlim hfresh hbn (R := R) (kt := keysT R) (ks := keysS R) (fun t => keysT_ok) (fun i => keysS_ok) g1 g2
  obtain ⟨va', vb', p'', k1, k2, E'', k3, k4⟩ := on_srel (R := []) (kt := []) (ks := []) (nx := sk.next) hs (Ext.refl E) hm hob1 c2 c3 (Nat.le_refl _) (by omega) (by omega) hfresh hbn c5 (fun _ _ => rfl) (fun _ _ => rfl)
  exact wp_loop_rounds n (hn E'' a w k3 (StR.weak hw ⟨va', vb', p'', k1, k2, k4⟩))
end
end Go.Proofs.Ytaoeigofmfpamaa
end

/- The longest time of a calm step: impl.LongestTime's walls, and the least. Nothing is assumed. -/
section
namespace Go.Proofs.Ytaoeigofmfpamaa.Lt
open Go Fla
noncomputable section
def sgV : List (Nat × KS) := sgA true ++ [(400, ⟨true, true, .rows 1⟩)]
def q3 (O : FOps) (x : FD) (k : Int) : Nat := O.bin .quo .f32 (x.F2 3 k) (O.bin .mul .f32 1077936128 (x.F2 2 k))
def q2 (O : FOps) (x : FD) (k : Int) : Nat := O.bin .quo .f32 (x.F2 3 k) (O.bin .mul .f32 1073741824 (x.F2 2 k))
/-! ### the walls -/
def vIk : Sk := ⟨[(4, .c (.sl 400 0 1 true)), (84, .c (.sl 2 0 8 false)), (85, .c (.int .i64)), (86, .c (.int .i64))], sgV, 401⟩
def vIe : Sk := ⟨[(4, .c (.sl 400 0 1 true))], sgV, 401⟩
def vID (x : FD) (M k : Int) (ro : Int → List SC) : List LD := [.i M, .i x.n2, .i x.n2, .i k] ++ tD x M ro
def vIg (O : FOps) (u : Bool) (ρ : List (Nat × Nat)) (sk : Sk) (x : FD) (M k : Int) (ro : Int → List SC) : Option (Option XK × List LD × List Bool) := goL (cx0 O) NI ⟨hints [(87, u)], fun _ => none⟩ (bodyOf Try.f11 24) 400 460 vIk ρ sk (vID x M k ro)
def apT2 (ro : Int → List SC) (M : Int) (a b : Nat) (j : Int) : List SC := bif decide (j < M) then ro j else bif decide (j = M) then [.flt .f32 a] else [.flt .f32 b]
def apv2 (v : Int → Nat) (M : Int) (a b : Nat) (j : Int) : Nat := bif decide (j < M) then v j else bif decide (j = M) then a else b
theorem apT2_row (v : Int → Nat) (M : Int) (a b : Nat) : apT2 (RowT v) M a b = RowT (apv2 v M a b) := by
  funext j
  unfold apT2 apv2
  show _ = [SC.flt .f32 (bif decide (j < M) then v j else bif decide (j = M) then a else b)]
  cases decide (j < M) <;> cases decide (j = M) <;> rfl
def mI2 (M : Int) : Bool := decide (0 ≤ M ∧ M ≤ M ∧ M ≤ 999998)
set_option maxRecDepth 100000 in
theorem vIa (O : FOps) (x : FD) (M k : Int) (v : Int → Nat) : vIg O true [(403, 400)] vIk x M k (RowT v) = some (none, vID x (M + 2) (IntKind.i64.wrap (k + 1)) (apT2 (RowT v) M (q3 O x k) (q2 O x k)), hd3 x.n2 k ++ [mI2 M] ++ flT x (apT2 (RowT v) M (q3 O x k) (q2 O x k))) := by kernel_rfl
set_option maxRecDepth 100000 in
theorem vIb (O : FOps) (x : FD) (M k : Int) (v : Int → Nat) : vIg O false [] vIe x M k (RowT v) = some (some (.exit 6), oIE x M (RowT v), [!decide (k < x.n2)] ++ flT x (RowT v)) := by kernel_rfl
def stv (O : FOps) (x : FD) (k : Int) (p : Int × (Int → Nat)) : Int × (Int → Nat) := (p.1 + 2, apv2 p.2 p.1 (q3 O x k) (q2 O x k))
theorem vIl (x : FD) (hn : x.n2 ≤ 40000) : ∀ (m : Nat) (k : Int) (p : Int × (Int → Nat)), 0 ≤ k → k + m = x.n2 → 0 ≤ p.1 → p.1 ≤ 900000 + 2 * k →
    LoopsX Try.prog NI (bodyOf Try.f11 24) 400 460 vIk (vID x p.1 k (RowT p.2)) (.exit 6) vIe (oIE x (foldFrom (stv fops x) k m p).1 (RowT (foldFrom (stv fops x) k m p).2)) := by
  have hb : ∀ ts, CodeOK Try.prog NI (bodyOf Try.f11 24) (sx (cx0 fops) NI ⟨ts, fun _ => none⟩ (bodyOf Try.f11 24)) := fun ts => body_ok (l := L0) okL0 mixed 8 _ ts
  intro m
  induction m with
  | zero =>
    intro k p hk hkn h0 h1
    have e : k = x.n2 := by omega
    subst e
    exact .done (ρ := []) (hb _) (vIb fops x p.1 x.n2 p.2) (AllT.app (AllT.one' (by simp)) (flT_ok x (RowT_flat _)))
  | succ m ih =>
    intro k p hk hkn h0 h1
    have hlt : k < x.n2 := by omega
    have h := vIa fops x p.1 k p.2
    rw [wrap_succ hk (by omega), apT2_row] at h
    exact .step (hb _) h (AllT.app (AllT.app (hd3_ok hk hlt) (AllT.one' (by unfold mI2; simp; omega))) (flT_ok x (RowT_flat _))) (ih (k + 1) (stv fops x k p) (by omega) (by omega) (by show (0 : Int) ≤ p.1 + 2; omega) (by show p.1 + 2 ≤ 900000 + 2 * (k + 1); omega))
/-- The rows are such as they are told from now on. -/
def Told (M : Int) (ro : Int → List SC) : Prop := ∀ j, 0 ≤ j → j < M → ro j = RowT (datF ro 0) j
theorem told_le {M : Int} {ro : Int → List SC} (h0 : 0 ≤ M) (h : Told M ro) : SegLe ⟨true, true, .rows 1 M ro⟩ ⟨true, true, .rows 1 M (RowT (datF ro 0))⟩ := by
  refine ⟨id, id, rfl, fun E k w hk hv => ?_⟩
  simp only [SBody.len, SBody.at] at *
  rw [h _ (by omega) (by simp only [Nat.div_one]; omega)] at hv
  exact hv
def vP (M' M l1 l2 k N3 N2 N1 N0 n0 n1 n2 n3 : Int) (ro r0 r1 r2 r3 : Int → List SC) : Prop := M' = M ∧ l1 = n2 ∧ l2 = n2 ∧ k = 0 ∧ (0 ≤ M ∧ M ≤ 900000) ∧ n2 ≤ 40000 ∧ Told M ro ∧ Okd N3 N2 N1 N0 n0 n1 n2 n3 r0 r1 r2 r3
def vF' (O : FOps) : List LD → Option (XO × List Bool)
  | [.i M', .i l1, .i l2, .i k, .i N3, .r r3, .i N2, .r r2, .i N1, .r r1, .i N0, .r r0, .i n0, .i n1, .i n2, .i n3, .i M, .r ro] =>
    some ([(.t, .exit 6, vIe, [.i (foldFrom (stv O (mkFD r0 r1 r2 r3 n0 n1 n2 n3)) 0 n2.toNat (M, datF ro 0)).1] ++ (daR r0 r1 r2 r3 n0 n1 n2 n3 ++ [.i (foldFrom (stv O (mkFD r0 r1 r2 r3 n0 n1 n2 n3)) 0 n2.toNat (M, datF ro 0)).1, .r (RowT (foldFrom (stv O (mkFD r0 r1 r2 r3 n0 n1 n2 n3)) 0 n2.toNat (M, datF ro 0)).2)]))], [pB (vP M' M l1 l2 k N3 N2 N1 N0 n0 n1 n2 n3 ro r0 r1 r2 r3)])
  | _ => none
def vL (O : FOps) : List Ly → Top → Option Outs := loopL NI 400 460 vIk [(182, 400)] (vF' O)
theorem vWk {M M' l1 l2 k N3 N2 N1 N0 n0 n1 n2 n3 : Int} {ro r0 r1 r2 r3 : Int → List SC} (h0 : 0 ≤ M) (h : Told M ro) :
    WkD vIk [.i M', .i l1, .i l2, .i k, .i N3, .r r3, .i N2, .r r2, .i N1, .r r1, .i N0, .r r0, .i n0, .i n1, .i n2, .i n3, .i M, .r ro] [.i M', .i l1, .i l2, .i k, .i N3, .r r3, .i N2, .r r2, .i N1, .r r1, .i N0, .r r0, .i n0, .i n1, .i n2, .i n3, .i M, .r (RowT (datF ro 0))] := by
  intro va vb p' h1 h2
  cases h1
  cases h2
  exact ⟨_, _, rfl, rfl, .eq _ (.eq _ (.eq _ (.eq _ (.eq _ (.le _ (told_le h0 h) .nil)))))⟩
theorem vO : CodeOK Try.prog NI (.loop (bodyOf Try.f11 24)) (vL fops) := loopW_ok fun p r hr hob => by
  unfold vF' at hr
  split at hr <;> cases hr
  rename_i M' l1 l2 k N3 r3 N2 r2 N1 r1 N0 r0 n0 n1 n2 n3 M ro
  obtain ⟨e0, e1, e2, ek, ⟨m0, m1⟩, hn, ht, eN0, eN1, eN2, eN3, b0, c0, b2, c2, b3, c3, s0, s1, s2, s3⟩ := pB_iff.1 hob.head
  have E := daA_eq (n0 := n0) (n1 := n1) (n2 := n2) (n3 := n3) s0 s1 s2 s3
  have h := vIl (mkFD r0 r1 r2 r3 n0 n1 n2 n3) hn n2.toNat 0 (M, datF ro 0) (Int.le_refl _) (by show (0 : Int) + (n2.toNat : Nat) = n2; omega) m0 (by show M ≤ 900000 + 2 * 0; omega)
  unfold vID oIE tD at h
  rw [E] at h
  refine ⟨_, _, _, _, rfl, vWk m0 ht, ?_⟩
  rw [e0, e1, e2, ek, eN0, eN1, eN2, eN3]
  exact h
/-! ### the least -/
def lIk : Sk := ⟨[(14, .c (.flt .f32)), (112, .c (.sl 400 0 1 true)), (113, .c (.int .i64)), (114, .c (.int .i64))], sgV, 460⟩
def lIe : Sk := ⟨[(14, .c (.flt .f32))], sgV, 460⟩
def lID (x : FD) (M : Int) (ro : Int → List SC) (k : Int) (l : Nat) : List LD := [.f l, .i M, .i M, .i k] ++ tD x M ro
def lIE (x : FD) (M : Int) (ro : Int → List SC) (l : Nat) : List LD := [.f l] ++ tD x M ro
def lIg (O : FOps) (u : Bool) (sk : Sk) (x : FD) (M : Int) (ro : Int → List SC) (k : Int) (l : Nat) : Option (Option XK × List LD × List Bool) := goL (cx0 O) NI ⟨hints [(115, u)], fun _ => none⟩ (bodyOf Try.f11 32) 460 520 lIk [] sk (lID x M ro k l)
/-- The less of two. -/
def mn (O : FOps) (v : Int → Nat) (k : Int) (l : Nat) : Nat := bif O.cmp .lss .f32 (v k) l then v k else l
set_option maxRecDepth 100000 in
theorem lIa (O : FOps) (x : FD) (M k : Int) (v : Int → Nat) (l : Nat) : lIg O true lIk x M (RowT v) k l = some (none, lID x M (RowT v) (IntKind.i64.wrap (k + 1)) (mn O v k l), hd3 M k ++ flT x (RowT v)) := by kernel_rfl
set_option maxRecDepth 100000 in
theorem lIb (O : FOps) (x : FD) (M k : Int) (v : Int → Nat) (l : Nat) : lIg O false lIe x M (RowT v) k l = some (some (.exit 8), lIE x M (RowT v) l, [!decide (k < M)] ++ flT x (RowT v)) := by kernel_rfl
theorem lIl (x : FD) {M : Int} (hM : M ≤ 1048576) (v : Int → Nat) : ∀ (m : Nat) (k : Int) (l : Nat), 0 ≤ k → k + m = M →
    Loops (cx0 fops) NI (fun _ => none) (bodyOf Try.f11 32) 460 520 lIk (lID x M (RowT v) k l) (.exit 8) lIe (lIE x M (RowT v) (foldFrom (mn fops v) k m l)) := by
  refine fold_loops (D := lID x M (RowT v)) (n := M) (fun k l hk hlt => ?_) (fun l => ?_)
  · have r := lIa fops x M k v l
    rw [wrap_succ hk (by omega)] at r
    exact .mk _ (ρ := []) r (AllT.app (hd3_ok hk hlt) (flT_ok x (RowT_flat v)))
  · exact .mk _ (ρ := []) (lIb fops x M M v l) (AllT.app (AllT.one' (by simp)) (flT_ok x (RowT_flat v)))
def lP (M1 M2 M k N3 N2 N1 N0 n0 n1 n2 n3 : Int) (ro r0 r1 r2 r3 : Int → List SC) : Prop := M1 = M ∧ M2 = M ∧ k = 0 ∧ (0 ≤ M ∧ M ≤ 1048576) ∧ ro = RowT (datF ro 0) ∧ Okd N3 N2 N1 N0 n0 n1 n2 n3 r0 r1 r2 r3
def lF (O : FOps) : List LD → Option (XO × List Bool)
  | [.f l, .i M1, .i M2, .i k, .i N3, .r r3, .i N2, .r r2, .i N1, .r r1, .i N0, .r r0, .i n0, .i n1, .i n2, .i n3, .i M, .r ro] =>
    some ([(.t, .exit 8, lIe, [.f (foldFrom (mn O (datF ro 0)) 0 M.toNat l)] ++ (daR r0 r1 r2 r3 n0 n1 n2 n3 ++ [.i M, .r ro]))], [pB (lP M1 M2 M k N3 N2 N1 N0 n0 n1 n2 n3 ro r0 r1 r2 r3)])
  | _ => none
def lL (O : FOps) : List Ly → Top → Option Outs := loopL NI 460 520 lIk [] (lF O)
theorem lO : CodeOK Try.prog NI (.loop (bodyOf Try.f11 32)) (lL fops) := loopL_ok (cx := cx0 fops) (lp := fun _ => none) (fun ts => body_ok (l := L0) okL0 mixed 8 _ ts) fun p r hr hob => by
  unfold lF at hr
  split at hr <;> cases hr
  rename_i l M1 M2 k N3 r3 N2 r2 N1 r1 N0 r0 n0 n1 n2 n3 M ro
  obtain ⟨e0, e1, ek, ⟨m0, m1⟩, ht, eN0, eN1, eN2, eN3, b0, c0, b2, c2, b3, c3, s0, s1, s2, s3⟩ := pB_iff.1 hob.head
  rw [e0, e1, ek, eN0, eN1, eN2, eN3]
  have E := daA_eq (n0 := n0) (n1 := n1) (n2 := n2) (n3 := n3) s0 s1 s2 s3
  have h := lIl (mkFD r0 r1 r2 r3 n0 n1 n2 n3) m1 (datF ro 0) M.toNat 0 l (Int.le_refl _) (by omega)
  unfold lID lIE tD at h
  rw [E, ← ht] at h
  exact ⟨_, _, _, rfl, h⟩
end
end Go.Proofs.Ytaoeigofmfpamaa.Lt
end

/- The longest time of a calm step: spec.LongestTime. Nothing is assumed. -/
section
namespace Go.Proofs.Ytaoeigofmfpamaa.Lt
open Go Fla
noncomputable section
noncomputable def NS : Nat := Try.f9.ntmps
def sgS : List (Nat × KS) := sgA true ++ [(180, ⟨true, true, .rows 1⟩)]
def up (s : Int → Nat) (i : Int) (v : Nat) (j : Int) : Nat := bif decide (j = i) then v else s j
def g1A (O : FOps) (x : FD) (k : Int) (s : Int → Nat) : Int → Nat := up s (x.G2 0 k) (O.bin .add .f32 (s (x.G2 0 k)) (O.bin .mul .f32 1073741824 (x.F2 2 k)))
def g1B (O : FOps) (x : FD) (k : Int) (s : Int → Nat) : Int → Nat := up (g1A O x k s) (x.G2 1 k) (O.bin .add .f32 (g1A O x k s (x.G2 1 k)) (O.bin .mul .f32 1073741824 (x.F2 2 k)))
def g2A (O : FOps) (x : FD) (k : Int) (s : Int → Nat) : Int → Nat := up s (x.G3 0 k) (O.bin .add .f32 (s (x.G3 0 k)) (x.F3 2 k))
def g2B (O : FOps) (x : FD) (k : Int) (s : Int → Nat) : Int → Nat := up (g2A O x k s) (x.G3 1 k) (O.bin .add .f32 (g2A O x k s (x.G3 1 k)) (x.F3 2 k))
def ak : Sk := ⟨[(1, .c (.ptr 5 0)), (4, .c (.sl 180 0 1 true)), (5, .c (.int .i64))], sgS, 181⟩
def ae : Sk := ⟨[(1, .c (.ptr 5 0)), (4, .c (.sl 180 0 1 true))], sgS, 181⟩
def aD (x : FD) (k : Int) (s : Int → Nat) : List LD := [.i x.n0, .i k] ++ tD x x.n0 (RowT s)
def aE (x : FD) (s : Int → Nat) : List LD := [.i x.n0] ++ tD x x.n0 (RowT s)
def ag (O : FOps) (h : List (Nat × Bool)) (sk : Sk) (x : FD) (k : Int) (s : Int → Nat) : Option (Option XK × List LD × List Bool) := goL (cx0 O) NS ⟨hints h, fun _ => none⟩ (bodyOf Try.f9 5) 181 240 ak [] sk (aD x k s)
set_option maxRecDepth 100000 in
theorem aa (O : FOps) (x : FD) (k : Int) (s : Int → Nat) : ag O [(24, true), (54, true)] ak x k s = some (none, aD x (IntKind.i64.wrap (k + 1)) (g1B O x k s), [decide (k < x.n2), bd x.n2 k, bd x.n2 k, bd x.n2 k, bd x.n0 (x.G2 0 k), bd x.n0 (x.G2 0 k), bd x.n2 k, bd x.n0 (x.G2 0 k), bd x.n0 (x.G2 0 k), bd x.n2 k, decide (0 ≤ x.G2 1 k), bd x.n2 k, bd x.n2 k, bd x.n0 (x.G2 1 k), bd x.n0 (x.G2 1 k), bd x.n2 k, bd x.n0 (x.G2 1 k), bd x.n0 (x.G2 1 k)] ++ flT x (RowT (g1B O x k s))) := by kernel_rfl
set_option maxRecDepth 100000 in
theorem ab (O : FOps) (x : FD) (k : Int) (s : Int → Nat) : ag O [(24, true), (54, false)] ak x k s = some (none, aD x (IntKind.i64.wrap (k + 1)) (g1A O x k s), [decide (k < x.n2), bd x.n2 k, bd x.n2 k, bd x.n2 k, bd x.n0 (x.G2 0 k), bd x.n0 (x.G2 0 k), bd x.n2 k, bd x.n0 (x.G2 0 k), bd x.n0 (x.G2 0 k), bd x.n2 k, !decide (0 ≤ x.G2 1 k)] ++ flT x (RowT (g1A O x k s))) := by kernel_rfl
set_option maxRecDepth 100000 in
theorem ac (O : FOps) (x : FD) (k : Int) (s : Int → Nat) : ag O [(24, false)] ae x k s = some (some (.exit 0), aE x s, [!decide (k < x.n2)] ++ flT x (RowT s)) := by kernel_rfl
def bk : Sk := ⟨[(1, .c (.ptr 5 0)), (4, .c (.sl 180 0 1 true)), (7, .c (.int .i64))], sgS, 240⟩
def be : Sk := ⟨[(1, .c (.ptr 5 0)), (4, .c (.sl 180 0 1 true))], sgS, 240⟩
def bg (O : FOps) (h : List (Nat × Bool)) (sk : Sk) (x : FD) (k : Int) (s : Int → Nat) : Option (Option XK × List LD × List Bool) := goL (cx0 O) NS ⟨hints h, fun _ => none⟩ (bodyOf Try.f9 12) 240 300 bk [] sk (aD x k s)
set_option maxRecDepth 100000 in
theorem ba (O : FOps) (x : FD) (k : Int) (s : Int → Nat) : bg O [(78, true), (107, true)] bk x k s = some (none, aD x (IntKind.i64.wrap (k + 1)) (g2B O x k s), [decide (k < x.n3), bd x.n3 k, bd x.n3 k, bd x.n3 k, bd x.n0 (x.G3 0 k), bd x.n0 (x.G3 0 k), bd x.n3 k, bd x.n0 (x.G3 0 k), bd x.n0 (x.G3 0 k), bd x.n3 k, decide (0 ≤ x.G3 1 k), bd x.n3 k, bd x.n3 k, bd x.n0 (x.G3 1 k), bd x.n0 (x.G3 1 k), bd x.n3 k, bd x.n0 (x.G3 1 k), bd x.n0 (x.G3 1 k)] ++ flT x (RowT (g2B O x k s))) := by kernel_rfl
set_option maxRecDepth 100000 in
theorem bb (O : FOps) (x : FD) (k : Int) (s : Int → Nat) : bg O [(78, true), (107, false)] bk x k s = some (none, aD x (IntKind.i64.wrap (k + 1)) (g2A O x k s), [decide (k < x.n3), bd x.n3 k, bd x.n3 k, bd x.n3 k, bd x.n0 (x.G3 0 k), bd x.n0 (x.G3 0 k), bd x.n3 k, bd x.n0 (x.G3 0 k), bd x.n0 (x.G3 0 k), bd x.n3 k, !decide (0 ≤ x.G3 1 k)] ++ flT x (RowT (g2A O x k s))) := by kernel_rfl
set_option maxRecDepth 100000 in
theorem bc (O : FOps) (x : FD) (k : Int) (s : Int → Nat) : bg O [(78, false)] be x k s = some (some (.exit 2), aE x s, [!decide (k < x.n3)] ++ flT x (RowT s)) := by kernel_rfl
/-- A better time. -/
def bt (O : FOps) (t b : Nat) : Nat := bif or2 (O.cmp .lss .f32 b 0) (O.cmp .lss .f32 t b) then t else b
def rmS (O : FOps) (x : FD) (s : Int → Nat) (k : Int) (b : Nat) : Nat := bif O.cmp .eql .f32 (s k) 0 then b else bt O (O.bin .quo .f32 (x.F1 0 k) (s k)) b
def wlS (O : FOps) (x : FD) (k : Int) (b : Nat) : Nat := bt O (q3 O x k) b
def ck : Sk := ⟨[(1, .c (.ptr 5 0)), (4, .c (.sl 180 0 1 true)), (9, .c (.flt .f32)), (10, .c (.int .i64))], sgS, 300⟩
def ce : Sk := ⟨[(1, .c (.ptr 5 0)), (9, .c (.flt .f32))], sgA true, 300⟩
def cD (x : FD) (s : Int → Nat) (k : Int) (b : Nat) : List LD := [.i x.n0, .f b, .i k] ++ tD x x.n0 (RowT s)
def cE (x : FD) (b : Nat) : List LD := [.f b] ++ daA x
def cg (O : FOps) (h : List (Nat × Bool)) (sk : Sk) (x : FD) (s : Int → Nat) (k : Int) (b : Nat) : Option (Option XK × List LD × List Bool) := goL (cx0 O) NS ⟨hints h, fun _ => none⟩ (bodyOf Try.f9 20) 300 360 ck [] sk (cD x s k b)
set_option maxRecDepth 100000 in
theorem ca (O : FOps) (x : FD) (s : Int → Nat) (k : Int) (b : Nat) : cg O [(129, true)] ck x s k b = some (none, cD x s (IntKind.i64.wrap (k + 1)) (rmS O x s k b), [decide (k < x.n0), bd x.n0 k, bd x.n0 k] ++ gdB (O.cmp .eql .f32 (s k) 0) [bd x.n1 k, bd x.n1 k, bd x.n0 k, bd x.n0 k] ++ flT x (RowT s)) := by kernel_rfl
set_option maxRecDepth 100000 in
theorem cb (O : FOps) (x : FD) (s : Int → Nat) (k : Int) (b : Nat) : cg O [(129, false)] ce x s k b = some (some (.exit 4), cE x b, [!decide (k < x.n0)] ++ fl4 x) := by kernel_rfl
def dk : Sk := ⟨[(1, .c (.ptr 5 0)), (9, .c (.flt .f32)), (12, .c (.int .i64))], sgA true, 360⟩
def de : Sk := ⟨[(9, .c (.flt .f32))], sgA true, 360⟩
def dD (x : FD) (k : Int) (b : Nat) : List LD := [.f b, .i k] ++ daA x
def dg (O : FOps) (h : List (Nat × Bool)) (sk : Sk) (x : FD) (k : Int) (b : Nat) : Option (Option XK × List LD × List Bool) := goL (cx0 O) NS ⟨hints h, fun _ => none⟩ (bodyOf Try.f9 27) 360 420 dk [] sk (dD x k b)
set_option maxRecDepth 100000 in
theorem da (O : FOps) (x : FD) (k : Int) (b : Nat) : dg O [(159, true)] dk x k b = some (none, dD x (IntKind.i64.wrap (k + 1)) (wlS O x k b), [decide (k < x.n2), bd x.n2 k, bd x.n2 k, bd x.n2 k, bd x.n2 k] ++ fl4 x) := by kernel_rfl
set_option maxRecDepth 100000 in
theorem db (O : FOps) (x : FD) (k : Int) (b : Nat) : dg O [(159, false)] de x k b = some (some (.exit 6), cE x b, [!decide (k < x.n2)] ++ fl4 x) := by kernel_rfl
/-- The sides of walls and of panes are rooms, or outside. -/
def Win (x : FD) : Prop := ∀ k, 0 ≤ k → k < x.n2 → 0 ≤ x.G2 0 k ∧ x.G2 0 k < x.n0 ∧ -1 ≤ x.G2 1 k ∧ x.G2 1 k < x.n0
def Pan (x : FD) : Prop := ∀ k, 0 ≤ k → k < x.n3 → 0 ≤ x.G3 0 k ∧ x.G3 0 k < x.n0 ∧ -1 ≤ x.G3 1 k ∧ x.G3 1 k < x.n0
def g1 (O : FOps) (x : FD) (k : Int) (s : Int → Nat) : Int → Nat := bif decide (0 ≤ x.G2 1 k) then g1B O x k s else g1A O x k s
theorem al (x : FD) (hn : x.n2 ≤ 1048576) (hp : Win x) : ∀ (m : Nat) (k : Int) (s : Int → Nat), 0 ≤ k → k + m = x.n2 →
    Loops (cx0 fops) NS (fun _ => none) (bodyOf Try.f9 5) 181 240 ak (aD x k s) (.exit 0) ae (aE x (foldFrom (g1 fops x) k m s)) := by
  refine fold_loops (D := aD x) (n := x.n2) (fun k s hk hlt => ?_) (fun s => ?_)
  · obtain ⟨hA, hA', hB, hB'⟩ := hp k hk hlt
    have b := bd_ok hk hlt
    have a := bd_ok hA hA'
    by_cases hb : 0 ≤ x.G2 1 k
    · have r := aa fops x k s
      rw [wrap_succ hk (by omega)] at r
      have e : g1 fops x k s = g1B fops x k s := by unfold g1; rw [decide_eq_true hb]; rfl
      have bb := bd_ok hb hB'
      rw [e]
      exact .mk _ (ρ := []) r (AllT.app (AllT.cons (decide_eq_true hlt) (AllT.cons b (AllT.cons b (AllT.cons b (AllT.cons a (AllT.cons a (AllT.cons b (AllT.cons a (AllT.cons a (AllT.cons b (AllT.cons (decide_eq_true hb) (AllT.cons b (AllT.cons b (AllT.cons bb (AllT.cons bb (AllT.cons b (AllT.cons bb (AllT.one' bb)))))))))))))))))) (flT_ok x (RowT_flat _)))
    · have r := ab fops x k s
      rw [wrap_succ hk (by omega)] at r
      have e : g1 fops x k s = g1A fops x k s := by unfold g1; rw [decide_eq_false hb]; rfl
      rw [e]
      exact .mk _ (ρ := []) r (AllT.app (AllT.cons (decide_eq_true hlt) (AllT.cons b (AllT.cons b (AllT.cons b (AllT.cons a (AllT.cons a (AllT.cons b (AllT.cons a (AllT.cons a (AllT.cons b (AllT.one' (by rw [decide_eq_false hb]; rfl)))))))))))) (flT_ok x (RowT_flat _)))
  · exact .mk _ (ρ := []) (ac fops x x.n2 s) (AllT.app (AllT.one' (by simp)) (flT_ok x (RowT_flat _)))
def aP (l0 k M N3 N2 N1 N0 n0 n1 n2 n3 : Int) (ro r0 r1 r2 r3 : Int → List SC) : Prop := l0 = n0 ∧ k = 0 ∧ M = n0 ∧ Win (mkFD r0 r1 r2 r3 n0 n1 n2 n3) ∧ ro = RowT (datF ro 0) ∧ Okd N3 N2 N1 N0 n0 n1 n2 n3 r0 r1 r2 r3
def aF (O : FOps) : List LD → Option (XO × List Bool)
  | [.i l0, .i k, .i N3, .r r3, .i N2, .r r2, .i N1, .r r1, .i N0, .r r0, .i n0, .i n1, .i n2, .i n3, .i M, .r ro] =>
    some ([(.t, .exit 0, ae, [.i n0] ++ (daR r0 r1 r2 r3 n0 n1 n2 n3 ++ [.i n0, .r (RowT (foldFrom (g1 O (mkFD r0 r1 r2 r3 n0 n1 n2 n3)) 0 n2.toNat (datF ro 0)))]))], [pB (aP l0 k M N3 N2 N1 N0 n0 n1 n2 n3 ro r0 r1 r2 r3)])
  | _ => none
def aL (O : FOps) : List Ly → Top → Option Outs := loopL NS 181 240 ak [] (aF O)
theorem aO : CodeOK Try.prog NS (.loop (bodyOf Try.f9 5)) (aL fops) := loopL_ok (cx := cx0 fops) (lp := fun _ => none) (fun ts => body_ok (l := L0) okL0 mixed 8 _ ts) fun p r hr hob => by
  unfold aF at hr
  split at hr <;> cases hr
  rename_i l0 k N3 r3 N2 r2 N1 r1 N0 r0 n0 n1 n2 n3 M ro
  obtain ⟨e0, ek, eM, hp, ht, eN0, eN1, eN2, eN3, b0, c0, b2, c2, b3, c3, s0, s1, s2, s3⟩ := pB_iff.1 hob.head
  rw [e0, ek, eM, eN0, eN1, eN2, eN3]
  have E := daA_eq (n0 := n0) (n1 := n1) (n2 := n2) (n3 := n3) s0 s1 s2 s3
  have h := al (mkFD r0 r1 r2 r3 n0 n1 n2 n3) c2 hp n2.toNat 0 (datF ro 0) (Int.le_refl _) (by show (0 : Int) + (n2.toNat : Nat) = n2; omega)
  unfold aD aE tD at h
  rw [E, ← ht] at h
  exact ⟨_, _, _, rfl, h⟩
def g2 (O : FOps) (x : FD) (k : Int) (s : Int → Nat) : Int → Nat := bif decide (0 ≤ x.G3 1 k) then g2B O x k s else g2A O x k s
theorem bl (x : FD) (hn : x.n3 ≤ 1048576) (hp : Pan x) : ∀ (m : Nat) (k : Int) (s : Int → Nat), 0 ≤ k → k + m = x.n3 →
    Loops (cx0 fops) NS (fun _ => none) (bodyOf Try.f9 12) 240 300 bk (aD x k s) (.exit 2) be (aE x (foldFrom (g2 fops x) k m s)) := by
  refine fold_loops (D := aD x) (n := x.n3) (fun k s hk hlt => ?_) (fun s => ?_)
  · obtain ⟨hA, hA', hB, hB'⟩ := hp k hk hlt
    have b := bd_ok hk hlt
    have a := bd_ok hA hA'
    by_cases hb : 0 ≤ x.G3 1 k
    · have r := ba fops x k s
      rw [wrap_succ hk (by omega)] at r
      have e : g2 fops x k s = g2B fops x k s := by unfold g2; rw [decide_eq_true hb]; rfl
      have bb := bd_ok hb hB'
      rw [e]
      exact .mk _ (ρ := []) r (AllT.app (AllT.cons (decide_eq_true hlt) (AllT.cons b (AllT.cons b (AllT.cons b (AllT.cons a (AllT.cons a (AllT.cons b (AllT.cons a (AllT.cons a (AllT.cons b (AllT.cons (decide_eq_true hb) (AllT.cons b (AllT.cons b (AllT.cons bb (AllT.cons bb (AllT.cons b (AllT.cons bb (AllT.one' bb)))))))))))))))))) (flT_ok x (RowT_flat _)))
    · have r := bb fops x k s
      rw [wrap_succ hk (by omega)] at r
      have e : g2 fops x k s = g2A fops x k s := by unfold g2; rw [decide_eq_false hb]; rfl
      rw [e]
      exact .mk _ (ρ := []) r (AllT.app (AllT.cons (decide_eq_true hlt) (AllT.cons b (AllT.cons b (AllT.cons b (AllT.cons a (AllT.cons a (AllT.cons b (AllT.cons a (AllT.cons a (AllT.cons b (AllT.one' (by rw [decide_eq_false hb]; rfl)))))))))))) (flT_ok x (RowT_flat _)))
  · exact .mk _ (ρ := []) (bc fops x x.n3 s) (AllT.app (AllT.one' (by simp)) (flT_ok x (RowT_flat _)))
def bP (l0 k M N3 N2 N1 N0 n0 n1 n2 n3 : Int) (ro r0 r1 r2 r3 : Int → List SC) : Prop := l0 = n0 ∧ k = 0 ∧ M = n0 ∧ Pan (mkFD r0 r1 r2 r3 n0 n1 n2 n3) ∧ ro = RowT (datF ro 0) ∧ Okd N3 N2 N1 N0 n0 n1 n2 n3 r0 r1 r2 r3
def bF (O : FOps) : List LD → Option (XO × List Bool)
  | [.i l0, .i k, .i N3, .r r3, .i N2, .r r2, .i N1, .r r1, .i N0, .r r0, .i n0, .i n1, .i n2, .i n3, .i M, .r ro] =>
    some ([(.t, .exit 2, be, [.i n0] ++ (daR r0 r1 r2 r3 n0 n1 n2 n3 ++ [.i n0, .r (RowT (foldFrom (g2 O (mkFD r0 r1 r2 r3 n0 n1 n2 n3)) 0 n3.toNat (datF ro 0)))]))], [pB (bP l0 k M N3 N2 N1 N0 n0 n1 n2 n3 ro r0 r1 r2 r3)])
  | _ => none
def bL (O : FOps) : List Ly → Top → Option Outs := loopL NS 240 300 bk [] (bF O)
theorem bO : CodeOK Try.prog NS (.loop (bodyOf Try.f9 12)) (bL fops) := loopL_ok (cx := cx0 fops) (lp := fun _ => none) (fun ts => body_ok (l := L0) okL0 mixed 8 _ ts) fun p r hr hob => by
  unfold bF at hr
  split at hr <;> cases hr
  rename_i l0 k N3 r3 N2 r2 N1 r1 N0 r0 n0 n1 n2 n3 M ro
  obtain ⟨e0, ek, eM, hp, ht, eN0, eN1, eN2, eN3, b0, c0, b2, c2, b3, c3, s0, s1, s2, s3⟩ := pB_iff.1 hob.head
  rw [e0, ek, eM, eN0, eN1, eN2, eN3]
  have E := daA_eq (n0 := n0) (n1 := n1) (n2 := n2) (n3 := n3) s0 s1 s2 s3
  have h := bl (mkFD r0 r1 r2 r3 n0 n1 n2 n3) c3 hp n3.toNat 0 (datF ro 0) (Int.le_refl _) (by show (0 : Int) + (n3.toNat : Nat) = n3; omega)
  unfold aD aE tD at h
  rw [E, ← ht] at h
  exact ⟨_, _, _, rfl, h⟩
theorem cl (x : FD) (h1 : x.n1 = x.n0) (hn : x.n0 ≤ 1048576) (s : Int → Nat) : ∀ (m : Nat) (k : Int) (b : Nat), 0 ≤ k → k + m = x.n0 →
    Loops (cx0 fops) NS (fun _ => none) (bodyOf Try.f9 20) 300 360 ck (cD x s k b) (.exit 4) ce (cE x (foldFrom (rmS fops x s) k m b)) := by
  refine fold_loops (D := cD x s) (n := x.n0) (fun k b hk hlt => ?_) (fun b => ?_)
  · have r := ca fops x s k b
    rw [wrap_succ hk (by omega)] at r
    have d := bd_ok hk hlt
    have d1 : bd x.n1 k = true := by rw [h1]; exact d
    exact .mk _ (ρ := []) r (AllT.app (AllT.app (AllT.cons (decide_eq_true hlt) (AllT.cons d (AllT.one' d))) (gdB_ok fun _ => AllT.cons d1 (AllT.cons d1 (AllT.cons d (AllT.one' d))))) (flT_ok x (RowT_flat s)))
  · exact .mk _ (ρ := []) (cb fops x s x.n0 b) (AllT.app (AllT.one' (by simp)) (fl4_ok x))
def cP (l0 k M N3 N2 N1 N0 n0 n1 n2 n3 : Int) (ro r0 r1 r2 r3 : Int → List SC) : Prop := l0 = n0 ∧ k = 0 ∧ M = n0 ∧ n1 = n0 ∧ ro = RowT (datF ro 0) ∧ Okd N3 N2 N1 N0 n0 n1 n2 n3 r0 r1 r2 r3
def cF' (O : FOps) : List LD → Option (XO × List Bool)
  | [.i l0, .f b, .i k, .i N3, .r r3, .i N2, .r r2, .i N1, .r r1, .i N0, .r r0, .i n0, .i n1, .i n2, .i n3, .i M, .r ro] =>
    some ([(.t, .exit 4, ce, [.f (foldFrom (rmS O (mkFD r0 r1 r2 r3 n0 n1 n2 n3) (datF ro 0)) 0 n0.toNat b)] ++ daR r0 r1 r2 r3 n0 n1 n2 n3)], [pB (cP l0 k M N3 N2 N1 N0 n0 n1 n2 n3 ro r0 r1 r2 r3)])
  | _ => none
def cL (O : FOps) : List Ly → Top → Option Outs := loopL NS 300 360 ck [] (cF' O)
theorem cO : CodeOK Try.prog NS (.loop (bodyOf Try.f9 20)) (cL fops) := loopL_ok (cx := cx0 fops) (lp := fun _ => none) (fun ts => body_ok (l := L0) okL0 mixed 8 _ ts) fun p r hr hob => by
  unfold cF' at hr
  split at hr <;> cases hr
  rename_i l0 b k N3 r3 N2 r2 N1 r1 N0 r0 n0 n1 n2 n3 M ro
  obtain ⟨e0, ek, eM, e1, ht, eN0, eN1, eN2, eN3, b0, c0, b2, c2, b3, c3, s0, s1, s2, s3⟩ := pB_iff.1 hob.head
  rw [e0, ek, eM, eN0, eN1, eN2, eN3]
  have E := daA_eq (n0 := n0) (n1 := n1) (n2 := n2) (n3 := n3) s0 s1 s2 s3
  have h := cl (mkFD r0 r1 r2 r3 n0 n1 n2 n3) e1 c0 (datF ro 0) n0.toNat 0 b (Int.le_refl _) (by show (0 : Int) + (n0.toNat : Nat) = n0; omega)
  unfold cD cE tD at h
  rw [E, ← ht] at h
  exact ⟨_, _, _, rfl, h⟩
theorem dl (x : FD) (hn : x.n2 ≤ 1048576) : ∀ (m : Nat) (k : Int) (b : Nat), 0 ≤ k → k + m = x.n2 →
    Loops (cx0 fops) NS (fun _ => none) (bodyOf Try.f9 27) 360 420 dk (dD x k b) (.exit 6) de (cE x (foldFrom (wlS fops x) k m b)) := by
  refine fold_loops (D := dD x) (n := x.n2) (fun k b hk hlt => ?_) (fun b => ?_)
  · have r := da fops x k b
    rw [wrap_succ hk (by omega)] at r
    have d := bd_ok hk hlt
    exact .mk _ (ρ := []) r (AllT.app (AllT.cons (decide_eq_true hlt) (AllT.cons d (AllT.cons d (AllT.cons d (AllT.one' d))))) (fl4_ok x))
  · exact .mk _ (ρ := []) (db fops x x.n2 b) (AllT.app (AllT.one' (by simp)) (fl4_ok x))
def dP (k N3 N2 N1 N0 n0 n1 n2 n3 : Int) (r0 r1 r2 r3 : Int → List SC) : Prop := k = 0 ∧ Okd N3 N2 N1 N0 n0 n1 n2 n3 r0 r1 r2 r3
def dF (O : FOps) : List LD → Option (XO × List Bool)
  | [.f b, .i k, .i N3, .r r3, .i N2, .r r2, .i N1, .r r1, .i N0, .r r0, .i n0, .i n1, .i n2, .i n3] =>
    some ([(.t, .exit 6, de, [.f (foldFrom (wlS O (mkFD r0 r1 r2 r3 n0 n1 n2 n3)) 0 n2.toNat b)] ++ daR r0 r1 r2 r3 n0 n1 n2 n3)], [pB (dP k N3 N2 N1 N0 n0 n1 n2 n3 r0 r1 r2 r3)])
  | _ => none
def dL (O : FOps) : List Ly → Top → Option Outs := loopL NS 360 420 dk [] (dF O)
theorem dO : CodeOK Try.prog NS (.loop (bodyOf Try.f9 27)) (dL fops) := loopL_ok (cx := cx0 fops) (lp := fun _ => none) (fun ts => body_ok (l := L0) okL0 mixed 8 _ ts) fun p r hr hob => by
  unfold dF at hr
  split at hr <;> cases hr
  rename_i b k N3 r3 N2 r2 N1 r1 N0 r0 n0 n1 n2 n3
  obtain ⟨ek, eN0, eN1, eN2, eN3, b0, c0, b2, c2, b3, c3, s0, s1, s2, s3⟩ := pB_iff.1 hob.head
  rw [ek, eN0, eN1, eN2, eN3]
  have E := daA_eq (n0 := n0) (n1 := n1) (n2 := n2) (n3 := n3) s0 s1 s2 s3
  have h := dl (mkFD r0 r1 r2 r3 n0 n1 n2 n3) c2 n2.toNat 0 b (Int.le_refl _) (by show (0 : Int) + (n2.toNat : Nat) = n2; omega)
  unfold dD cE at h
  rw [E] at h
  exact ⟨_, _, _, rfl, h⟩
end
end Go.Proofs.Ytaoeigofmfpamaa.Lt
end

/- Facts of sums and products of floats. Nothing is assumed. -/
section
namespace Go.Proofs.Ytaoeigofmfpamaa
open Go

theorem bin_cn {op : BinOp} {k : FloatKind} {x y : Nat} : Cn k (fops.bin op k x y) := by
  show Cn k ((floatBits op k x y).getD (qnan k))
  cases h : floatBits op k x y with
  | some r => exact ⟨r, floatBits_lt h, can_of_not (floatBits_not_nan h)⟩
  | none => exact ⟨qnan k, by cases k <;> decide +kernel, by simp [can, qnan_nan]⟩
theorem word_false (f : Ieee.Format) (r : Nat) : f.word false r = r := rfl
/-- A word's own number is written as that word. -/
theorem nearest_units (k : FloatKind) (s : Bool) {r : Nat} (h : r < k.format.infRung) : k.format.nearest s (units k.format.binade r) k.format.leastPlace = k.format.word s r := by
  have hb : 0 < k.format.binade := binade_pos k
  have hbd : k.format.binade = 2 ^ k.format.fractionBits := rfl
  unfold Ieee.Format.nearest
  by_cases h0 : r = 0
  · subst h0
    have : units k.format.binade 0 = 0 := by unfold units; rw [if_pos hb]
    rw [this, if_pos rfl]
  · have hpos : 0 < units k.format.binade r := by
      have := units_lt (b := k.format.binade) hb (Nat.pos_of_ne_zero h0)
      have u0 : units k.format.binade 0 = 0 := by unfold units; rw [if_pos hb]
      rw [u0] at this; exact this
    rw [if_neg (by omega)]
    by_cases h1 : r < k.format.binade
    · have hu : units k.format.binade r = r := by unfold units; rw [if_pos h1]
      rw [hu]
      have hl : r.log2 < k.format.fractionBits := by rw [Nat.log2_lt h0]; exact h1
      have hm : max (k.format.leastPlace + (r.log2 : Int) - (k.format.fractionBits : Int)) k.format.leastPlace = k.format.leastPlace := by omega
      simp only [hm, Int.sub_self, Int.toNat_zero, Nat.zero_mul, Nat.zero_add, Nat.shiftLeft_zero, cut_zero]
      rw [Nat.min_eq_left (Nat.le_of_lt h)]
    · have hq : 1 ≤ r / k.format.binade := (Nat.one_le_div_iff hb).2 (by omega)
      have hu : units k.format.binade r = (k.format.binade + r % k.format.binade) * 2 ^ (r / k.format.binade - 1) := by unfold units; rw [if_neg h1]
      have hmod : r % k.format.binade < k.format.binade := Nat.mod_lt _ hb
      have hlog : (units k.format.binade r).log2 = k.format.fractionBits + (r / k.format.binade - 1) := by
        rw [Nat.log2_eq_iff (by omega), hu]
        constructor
        · rw [Nat.pow_add, ← hbd]
          exact Nat.mul_le_mul_right _ (Nat.le_add_right _ _)
        · rw [show k.format.fractionBits + (r / k.format.binade - 1) + 1 = (k.format.fractionBits + 1) + (r / k.format.binade - 1) by omega, Nat.pow_add, Nat.pow_succ, ← hbd]
          exact Nat.mul_lt_mul_of_pos_right (by omega) (Nat.two_pow_pos _)
      rw [hlog]
      have hm : max (k.format.leastPlace + ((k.format.fractionBits + (r / k.format.binade - 1) : Nat) : Int) - (k.format.fractionBits : Int)) k.format.leastPlace = k.format.leastPlace + ((r / k.format.binade - 1 : Nat) : Int) := by omega
      simp only [hm]
      have e1 : (k.format.leastPlace - (k.format.leastPlace + ((r / k.format.binade - 1 : Nat) : Int))).toNat = 0 := by omega
      have e2 : (k.format.leastPlace + ((r / k.format.binade - 1 : Nat) : Int) - k.format.leastPlace).toNat = r / k.format.binade - 1 := by omega
      rw [e1, e2, Nat.shiftLeft_zero]
      have hcut : Ieee.Toward.even.cut s (units k.format.binade r) (r / k.format.binade - 1) = k.format.binade + r % k.format.binade := by
        unfold Ieee.Toward.cut
        rw [hlog, Nat.min_eq_left (by omega), Nat.shiftLeft_eq, Nat.one_mul, hu]
        dsimp only
        rw [Nat.mul_div_cancel _ (Nat.two_pow_pos _), Nat.mul_mod_left]
        have : 0 < 2 ^ (r / k.format.binade - 1) := Nat.two_pow_pos _
        have h2 : (2 ^ (r / k.format.binade - 1) == 2 * 0) = false := by simp
        simp [h2]
      rw [hcut]
      have hr : (r / k.format.binade - 1) * k.format.binade + (k.format.binade + r % k.format.binade) = r := by
        have := Nat.div_add_mod r k.format.binade
        have e3 : (r / k.format.binade - 1) * k.format.binade + k.format.binade = r / k.format.binade * k.format.binade := by
          rw [← Nat.succ_mul, Nat.succ_eq_add_one, Nat.sub_add_cancel hq]
        rw [Nat.mul_comm] at this
        omega
      rw [hr, Nat.min_eq_left (Nat.le_of_lt h)]
theorem even_le {s : Bool} {n d t : Nat} (h : n ≤ t * 2 ^ d) : Ieee.Toward.even.cut s n d ≤ t := by
  unfold Ieee.Toward.cut
  dsimp only
  rw [Nat.shiftLeft_eq, Nat.one_mul]
  have hp : 0 < 2 ^ min d (n.log2 + 2) := Nat.two_pow_pos _
  generalize hg : 2 ^ min d (n.log2 + 2) = g at hp ⊢
  have hdm := Nat.div_add_mod n g
  have hrest : n % g < g := Nat.mod_lt _ hp
  -- where all digits are dropped the number is less than half a unit
  by_cases hd : d ≤ n.log2 + 2
  · have hgd : g = 2 ^ d := by rw [← hg, Nat.min_eq_left hd]
    rw [← hgd] at h
    have hlow : n / g ≤ t := by
      have := Nat.div_le_div_right (c := g) h
      rwa [Nat.mul_div_cancel _ hp] at this
    rcases Nat.lt_or_eq_of_le hlow with h1 | h1
    · have : ∀ b : Bool, b.toNat ≤ 1 := fun b => by cases b <;> decide
      have := this (decide (g < 2 * (n % g)) || (g == 2 * (n % g) && n / g % 2 == 1))
      omega
    · have h2 : n % g = 0 := by
        rw [h1, Nat.mul_comm] at hdm
        omega
      have h3 : (g == 2 * 0) = false := by
        cases hb : (g == 2 * 0)
        · rfl
        · have := of_decide_eq_true (p := g = 2 * 0) (by simpa using hb); omega
      rw [h2, h3, h1]
      simp
  · have hgd : g = 2 ^ (n.log2 + 2) := by rw [← hg, Nat.min_eq_right (by omega)]
    have hn : n < 2 ^ (n.log2 + 1) := Nat.lt_log2_self
    have h2 : 2 * n < g := by rw [hgd, Nat.pow_succ]; omega
    have hlt : n < g := by omega
    rw [Nat.div_eq_of_lt hlt, Nat.mod_eq_of_lt hlt]
    have h3 : decide (g < 2 * n) = false := by simp; omega
    have h4 : (g == 2 * n) = false := by simp; omega
    rw [h3, h4]
    simp
/-- No number that is at most a word's is written above it. -/
theorem nearest_le (k : FloatKind) (s : Bool) {m : Nat} {e : Int} {r : Nat} (h : m * 2 ^ (e - k.format.leastPlace).toNat ≤ units k.format.binade r * 2 ^ (k.format.leastPlace - e).toNat) : ∃ r', r' ≤ r ∧ r' ≤ k.format.infRung ∧ k.format.nearest s m e = k.format.word s r' := by
  have hb : 0 < k.format.binade := binade_pos k
  have hbd : k.format.binade = 2 ^ k.format.fractionBits := rfl
  unfold Ieee.Format.nearest
  by_cases h0 : m = 0
  · rw [if_pos h0]; exact ⟨0, Nat.zero_le _, Nat.zero_le _, rfl⟩
  rw [if_neg h0]
  refine ⟨_, ?_, Nat.min_le_right _ _, rfl⟩
  refine Nat.le_trans (Nat.min_le_left _ _) ?_
  -- the number in units, and its binade
  generalize hE : (e - k.format.leastPlace).toNat = E at h
  generalize hF : (k.format.leastPlace - e).toNat = F at h
  have hEe : e = k.format.leastPlace + (E : Int) - (F : Int) := by omega
  have hEF : E = 0 ∨ F = 0 := by omega
  have hml : 2 ^ m.log2 ≤ m := Nat.log2_self_le h0
  have hmu : m < 2 ^ (m.log2 + 1) := Nat.lt_log2_self
  by_cases hn : E + m.log2 ≤ k.format.fractionBits + F
  · -- the least binades: a step is a unit
    have hm : max (e + (m.log2 : Int) - (k.format.fractionBits : Int)) k.format.leastPlace = k.format.leastPlace := by omega
    simp only [hm]
    rw [hE, hF, Int.sub_self, Int.toNat_zero, Nat.zero_mul, Nat.zero_add, Nat.shiftLeft_eq]
    have hu : m * 2 ^ E ≤ (2 * k.format.binade) * 2 ^ F := by
      calc m * 2 ^ E ≤ 2 ^ (m.log2 + 1) * 2 ^ E := Nat.mul_le_mul_right _ (Nat.le_of_lt hmu)
        _ = 2 ^ (E + m.log2 + 1) := by rw [← Nat.pow_add]; congr 1; omega
        _ ≤ 2 ^ (k.format.fractionBits + 1 + F) := Nat.pow_le_pow_right (by omega) (by omega)
        _ = (2 * k.format.binade) * 2 ^ F := by rw [Nat.pow_add, Nat.pow_succ, hbd, Nat.mul_comm 2]
    by_cases hr2 : r < 2 * k.format.binade
    · have : units k.format.binade r = r := by
        unfold units
        split
        · rfl
        · rename_i h1
          have hq : r / k.format.binade = 1 := by
            refine Nat.le_antisymm ?_ ((Nat.one_le_div_iff hb).2 (by omega))
            exact Nat.le_of_lt_succ (Nat.div_lt_of_lt_mul (by omega))
          have := Nat.div_add_mod r k.format.binade
          rw [hq] at this ⊢
          simp; omega
      rw [this] at h; exact even_le h
    · exact Nat.le_trans (even_le hu) (by omega)
  · -- a number with all its digits
    have hm : max (e + (m.log2 : Int) - (k.format.fractionBits : Int)) k.format.leastPlace = k.format.leastPlace + ((E + m.log2 - k.format.fractionBits - F : Nat) : Int) := by omega
    simp only [hm]
    generalize hD : E + m.log2 - k.format.fractionBits - F = D
    have e1 : (k.format.leastPlace + (D : Int) - k.format.leastPlace).toNat = D := by omega
    rw [e1]
    -- what is kept is below t where the number is
    have kept : ∀ t, m * 2 ^ E ≤ t * 2 ^ D * 2 ^ F → Ieee.Toward.even.cut s (m <<< (e - (k.format.leastPlace + (D : Int))).toNat) (k.format.leastPlace + (D : Int) - e).toNat ≤ t := by
      intro t ht
      refine even_le ?_
      rw [Nat.shiftLeft_eq]
      rw [Nat.mul_assoc, ← Nat.pow_add] at ht
      by_cases hED : D + F ≤ E
      · have d1 : (e - (k.format.leastPlace + (D : Int))).toNat = E - (D + F) := by omega
        have d2 : (k.format.leastPlace + (D : Int) - e).toNat = 0 := by omega
        rw [d1, d2, Nat.pow_zero, Nat.mul_one]
        have : m * 2 ^ E = m * 2 ^ (E - (D + F)) * 2 ^ (D + F) := by rw [Nat.mul_assoc, ← Nat.pow_add, Nat.sub_add_cancel hED]
        rw [this] at ht
        exact Nat.le_of_mul_le_mul_right ht (Nat.two_pow_pos _)
      · have d1 : (e - (k.format.leastPlace + (D : Int))).toNat = 0 := by omega
        have d2 : (k.format.leastPlace + (D : Int) - e).toNat = D + F - E := by omega
        rw [d1, d2, Nat.pow_zero, Nat.mul_one]
        have : t * 2 ^ (D + F) = t * 2 ^ (D + F - E) * 2 ^ E := by rw [Nat.mul_assoc, ← Nat.pow_add, Nat.sub_add_cancel (by omega)]
        rw [this] at ht
        exact Nat.le_of_mul_le_mul_right ht (Nat.two_pow_pos _)
    have hlow : k.format.binade * 2 ^ D * 2 ^ F ≤ m * 2 ^ E := by
      calc k.format.binade * 2 ^ D * 2 ^ F = 2 ^ (E + m.log2) := by rw [hbd, ← Nat.pow_add, ← Nat.pow_add]; congr 1; omega
        _ = 2 ^ m.log2 * 2 ^ E := by rw [← Nat.pow_add]; congr 1; omega
        _ ≤ m * 2 ^ E := Nat.mul_le_mul_right _ hml
    have hup : m * 2 ^ E ≤ (2 * k.format.binade) * 2 ^ D * 2 ^ F := by
      calc m * 2 ^ E ≤ 2 ^ (m.log2 + 1) * 2 ^ E := Nat.mul_le_mul_right _ (Nat.le_of_lt hmu)
        _ = (2 * k.format.binade) * 2 ^ D * 2 ^ F := by
          rw [hbd, ← Nat.pow_add, ← Nat.pow_succ', ← Nat.pow_add, ← Nat.pow_add]; congr 1; omega
    by_cases hr2 : D * k.format.binade + 2 * k.format.binade ≤ r
    · exact Nat.le_trans (Nat.add_le_add_left (kept _ hup) _) hr2
    · -- the word is of that binade
      have hlow' : k.format.binade * 2 ^ D ≤ units k.format.binade r := Nat.le_of_mul_le_mul_right (Nat.le_trans hlow h) (Nat.two_pow_pos F)
      have hge : D * k.format.binade + k.format.binade ≤ r := by
        rcases Nat.lt_or_ge r (D * k.format.binade + k.format.binade) with hlt | hge
        · exfalso
          have h1 := units_lt (b := k.format.binade) hb hlt
          have h2 : units k.format.binade (D * k.format.binade + k.format.binade) = k.format.binade * 2 ^ D := by
            unfold units
            rw [if_neg (by omega)]
            have h3 : D * k.format.binade + k.format.binade = (D + 1) * k.format.binade := by rw [Nat.succ_mul]
            rw [h3, Nat.mul_mod_left, Nat.mul_div_cancel _ hb]
            simp
          rw [h2] at h1
          omega
        · exact hge
      have hq : r / k.format.binade = D + 1 := by
        refine Nat.le_antisymm (Nat.le_of_lt_succ (Nat.div_lt_of_lt_mul ?_)) ((Nat.le_div_iff_mul_le hb).2 ?_)
        · rw [Nat.mul_comm, show (D + 1).succ = D + 2 from rfl, Nat.add_mul]; omega
        · rw [Nat.add_mul]; omega
      have hu : units k.format.binade r = (r - D * k.format.binade) * 2 ^ D := by
        unfold units
        rw [if_neg (by omega), hq]
        have := Nat.div_add_mod r k.format.binade
        rw [hq, Nat.mul_comm, Nat.add_mul] at this
        congr 1
        omega
      rw [hu] at h
      have := kept _ h
      omega

/-! ### zero adds nothing -/
theorem read_zero : FloatKind.f32.format.read 0 = .number false 0 FloatKind.f32.format.leastPlace := by decide +kernel
theorem neg_small {x : Nat} (h : x < 2147483648) : negB .f32 x = false := by
  unfold negB
  rw [show FloatKind.f32.format.signWeight = 2147483648 by decide +kernel, Nat.div_eq_of_lt h]; rfl
theorem rung_small {x : Nat} (h : x < 2147483648) : rung .f32 x = x := by
  unfold rung
  rw [show FloatKind.f32.format.signWeight = 2147483648 by decide +kernel, Nat.mod_eq_of_lt h]
theorem add_def (x y : Nat) : fops.bin .add .f32 x y = (((FloatKind.f32.format.read x).sum (FloatKind.f32.format.read y)).map FloatKind.f32.format.write).getD (qnan .f32) := rfl
theorem nan_read {x : Nat} (h : nanb .f32 x = true) : ∃ s t, FloatKind.f32.format.read x = .nan s t := by
  unfold nanb FloatKind.decode at h
  cases hd : FloatKind.f32.format.read x <;> rw [hd] at h <;> simp [Ieee.Datum.isNaN] at h
  exact ⟨_, _, rfl⟩
theorem add_zero {x : Nat} (hx : Cn .f32 x) (h : x < 2147483648) : fops.bin .add .f32 x 0 = x ∧ fops.bin .add .f32 0 x = x := by
  rw [add_def, add_def, read_zero]
  cases hn : nanb .f32 x with
  | true =>
    obtain ⟨s, t, hd⟩ := nan_read hn
    have hq : x = qnan .f32 := by have := hx.nan; rw [hn] at this; exact beqN.1 this.symm
    rw [hd]
    exact ⟨hq.symm, hq.symm⟩
  | false =>
    rcases read_cases .f32 x hn with ⟨m, e, h1, h2, h3, h4⟩ | ⟨h1, h4⟩
    · rw [neg_small h] at h1
      rw [rung_small h] at h3 h4
      rw [h1]
      have b1 : min e FloatKind.f32.format.leastPlace = FloatKind.f32.format.leastPlace := by omega
      have b2 : min FloatKind.f32.format.leastPlace e = FloatKind.f32.format.leastPlace := by omega
      have s1 : Ieee.signed false m (e - FloatKind.f32.format.leastPlace).toNat = ((units FloatKind.f32.format.binade x : Nat) : Int) := by
        unfold Ieee.signed
        rw [if_neg (by simp), Nat.shiftLeft_eq, h3]
      have s2 : ∀ n, Ieee.signed false 0 n = 0 := fun n => by simp [Ieee.signed]
      simp only [Ieee.Datum.sum, b1, b2, s1, s2, Int.add_zero, Int.zero_add, Option.map_some, Option.getD_some, Ieee.Format.write, Int.natAbs_natCast]
      have hneg : ∀ n : Nat, (if (n : Int) = 0 then (false && false) else decide ((n : Int) < 0)) = false := fun n => by split <;> simp
      rw [hneg, nearest_units .f32 false h4, word_false]
      exact ⟨rfl, rfl⟩
    · rw [neg_small h] at h1
      rw [rung_small h] at h4
      rw [h1]
      simp only [Ieee.Datum.sum, Option.map_some, Option.getD_some, Ieee.Format.write, word_false, h4]
      exact ⟨trivial, trivial⟩
/-- A product of two that are not negative is not negative. -/
theorem mul_pos {x y : Nat} (hx : x < 2147483648) (hy : y < 2147483648) : fops.bin .mul .f32 x y < 2147483648 := by
  have hdef : fops.bin .mul .f32 x y = (((FloatKind.f32.format.read x).product (FloatKind.f32.format.read y)).map FloatKind.f32.format.write).getD (qnan .f32) := rfl
  have hi : FloatKind.f32.format.infRung = 2139095040 := by decide +kernel
  have sgn : ∀ {z : Nat}, z < 2147483648 → (FloatKind.f32.format.read z).neg = false := by
    intro z hz
    cases hn : nanb .f32 z with
    | true =>
      unfold Ieee.Format.read
      have : (z / FloatKind.f32.format.signWeight % 2 == 1) = false := neg_small hz
      dsimp only
      rw [this]
      split
      · rfl
      · split
        · rfl
        · split <;> rfl
    | false =>
      rcases read_cases .f32 z hn with ⟨m, e, h1, _⟩ | ⟨h1, _⟩ <;> rw [h1] <;> exact neg_small hz
  have wr : ∀ d : Ieee.Datum, d.neg = false → d.isNaN = false → FloatKind.f32.format.write d < 2147483648 := by
    intro d h1 h2
    cases d with
    | nan s t => cases h2
    | infinity s => cases h1; rw [Ieee.Format.write, word_false, hi]; decide
    | number s m e =>
      cases h1
      simp only [Ieee.Format.write, Ieee.Format.nearest]
      split
      · rw [word_false]; decide
      · rw [word_false]
        exact Nat.lt_of_le_of_lt (Nat.min_le_right _ _) (by rw [hi]; decide)
  rw [hdef]
  cases hp : (FloatKind.f32.format.read x).product (FloatKind.f32.format.read y) with
  | none => decide +kernel
  | some d =>
    refine wr d ?_ (product_not_nan hp)
    have g1 := sgn hx
    have g2 := sgn hy
    cases h1 : FloatKind.f32.format.read x <;> cases h2 : FloatKind.f32.format.read y <;> rw [h1] at hp g1 <;> rw [h2] at hp g2 <;> simp only [Ieee.Datum.neg] at g1 g2 <;> subst g1 <;> subst g2 <;> simp only [Ieee.Datum.product] at hp <;> first
      | (cases hp; done)
      | (cases hp; rfl)
      | (split at hp <;> cases hp; rfl)
end Go.Proofs.Ytaoeigofmfpamaa
end

/- Sums, differences and products of floats: their sizes. Nothing is assumed. -/
section
namespace Go.Proofs.Ytaoeigofmfpamaa
open Go

/-- The number of a word in units of the least place, with its sign. -/
def val (x : Nat) : Int := sgn (negB .f32 x) (units FloatKind.f32.format.binade (rung .f32 x))
/-- A word of a number. -/
def Fin (x : Nat) : Prop := nanb .f32 x = false ∧ rung .f32 x < 2139095040
theorem inf32 : FloatKind.f32.format.infRung = 2139095040 := by decide +kernel
theorem sw32 : FloatKind.f32.format.signWeight = 2147483648 := by decide +kernel
theorem fin_read {x : Nat} (h : Fin x) : ∃ m e, FloatKind.f32.format.read x = .number (negB .f32 x) m e ∧ FloatKind.f32.format.leastPlace ≤ e ∧ m * 2 ^ (e - FloatKind.f32.format.leastPlace).toNat = units FloatKind.f32.format.binade (rung .f32 x) := by
  rcases read_cases .f32 x h.1 with ⟨m, e, h1, h2, h3, _⟩ | ⟨_, h4⟩
  · exact ⟨m, e, h1, h2, h3⟩
  · have := h.2; rw [h4, inf32] at this; omega
theorem fin_small {x : Nat} (h : x < 2139095040) : Fin x := by
  refine ⟨?_, by rw [rung_small (by omega)]; exact h⟩
  unfold nanb FloatKind.decode
  rw [read_nan, sw32, inf32]
  simp; omega
theorem val_small {x : Nat} (h : x < 2147483648) : val x = (units FloatKind.f32.format.binade x : Nat) := by
  unfold val sgn
  rw [neg_small h, rung_small h]; rfl
theorem signed_val {x : Nat} {m : Nat} {e b : Int} (s : Bool) (h1 : FloatKind.f32.format.leastPlace ≤ b) (h2 : b ≤ e) (h3 : m * 2 ^ (e - FloatKind.f32.format.leastPlace).toNat = units FloatKind.f32.format.binade (rung .f32 x)) :
    Ieee.signed s m (e - b).toNat * (2 ^ (b - FloatKind.f32.format.leastPlace).toNat : Nat) = sgn s (units FloatKind.f32.format.binade (rung .f32 x)) := by
  rw [signed_mul, ← h3]
  have : (e - b).toNat + (b - FloatKind.f32.format.leastPlace).toNat = (e - FloatKind.f32.format.leastPlace).toNat := by omega
  rw [this]
  rfl
theorem sgn_not (s : Bool) (n : Nat) : sgn (!s) n = - sgn s n := by cases s <;> simp [sgn]
/-- A difference of two numbers, and what it may not pass. -/
theorem sub_le {x y r : Nat} (hx : Fin x) (hy : Fin y) (h : val y ≤ val x) (hr : val x - val y ≤ (units FloatKind.f32.format.binade r : Nat)) (hs : negB .f32 x = false ∨ negB .f32 y = true ∨ val y < val x) :
    ∃ r', r' ≤ r ∧ r' ≤ 2139095040 ∧ (fops.bin .sub .f32 x y = r' ∨ fops.bin .sub .f32 x y = 2147483648 ∧ val x = val y) := by
  obtain ⟨m, i, h1, h2, h3⟩ := fin_read hx
  obtain ⟨n, j, g1, g2, g3⟩ := fin_read hy
  have hdef : fops.bin .sub .f32 x y = (((FloatKind.f32.format.read x).sum (FloatKind.f32.format.read y).opposite).map FloatKind.f32.format.write).getD (qnan .f32) := rfl
  rw [hdef, h1, g1]
  simp only [Ieee.Datum.opposite, Ieee.Datum.sum, Option.map_some, Option.getD_some, Ieee.Format.write]
  have e1 := signed_val (x := x) (b := min i j) (negB .f32 x) (by omega) (by omega) h3
  have e2 := signed_val (x := y) (b := min i j) (!negB .f32 y) (by omega) (by omega) g3
  rw [sgn_not] at e2
  generalize hT : Ieee.signed (negB .f32 x) m (i - min i j).toNat + Ieee.signed (!negB .f32 y) n (j - min i j).toNat = T
  have hTv : T * (2 ^ (min i j - FloatKind.f32.format.leastPlace).toNat : Nat) = val x - val y := by
    rw [← hT, Int.add_mul, e1, e2]; unfold val; omega
  have hp : (0 : Int) < ((2 ^ (min i j - FloatKind.f32.format.leastPlace).toNat : Nat) : Int) := by exact_mod_cast Nat.two_pow_pos _
  have hT0 : 0 ≤ T := by
    rcases Int.lt_or_le T 0 with h' | h'
    · have := Int.mul_neg_of_neg_of_pos h' hp
      rw [hTv] at this; omega
    · exact h'
  have hle : T.natAbs * 2 ^ (min i j - FloatKind.f32.format.leastPlace).toNat ≤ units FloatKind.f32.format.binade r * 2 ^ (FloatKind.f32.format.leastPlace - min i j).toNat := by
    have z : (FloatKind.f32.format.leastPlace - min i j).toNat = 0 := by omega
    rw [z, Nat.pow_zero, Nat.mul_one]
    have : ((T.natAbs * 2 ^ (min i j - FloatKind.f32.format.leastPlace).toNat : Nat) : Int) ≤ (units FloatKind.f32.format.binade r : Nat) := by
      rw [Int.natCast_mul, Int.natAbs_of_nonneg hT0, hTv]; exact hr
    exact_mod_cast this
  obtain ⟨r', k1, k2, k3⟩ := nearest_le .f32 (if T = 0 then negB .f32 x && !negB .f32 y else decide (T < 0)) hle
  rw [inf32] at k2
  refine ⟨r', k1, k2, ?_⟩
  rw [k3]
  by_cases ht : T = 0
  · rw [if_pos ht]
    have hv : val x = val y := by rw [ht, Int.zero_mul] at hTv; omega
    have : (negB .f32 x && !negB .f32 y) = false := by
      rcases hs with h' | h' | h'
      · rw [h']; rfl
      · rw [h']; simp
      · omega
    rw [this]; exact .inl rfl
  · rw [if_neg ht]
    have : decide (T < 0) = false := by simp; exact hT0
    rw [this]; exact .inl rfl
/-- A product of two that are not negative, and what it may not pass. -/
theorem mul_le {x y r : Nat} (hx : x < 2139095040) (hy : y < 2139095040) (h : units FloatKind.f32.format.binade x * units FloatKind.f32.format.binade y ≤ units FloatKind.f32.format.binade r * 2 ^ 149) :
    fops.bin .mul .f32 x y ≤ r ∧ fops.bin .mul .f32 x y ≤ 2139095040 := by
  obtain ⟨m, i, h1, h2, h3⟩ := fin_read (fin_small hx)
  obtain ⟨n, j, g1, g2, g3⟩ := fin_read (fin_small hy)
  rw [neg_small (by omega)] at h1 g1
  rw [rung_small (by omega)] at h3 g3
  have hdef : fops.bin .mul .f32 x y = (((FloatKind.f32.format.read x).product (FloatKind.f32.format.read y)).map FloatKind.f32.format.write).getD (qnan .f32) := rfl
  rw [hdef, h1, g1]
  simp only [Ieee.Datum.product, Option.map_some, Option.getD_some, Ieee.Format.write, Bool.false_bne, bne_self_eq_false]
  have lp : FloatKind.f32.format.leastPlace = -149 := by decide +kernel
  have key : m * n * 2 ^ (i + j - FloatKind.f32.format.leastPlace).toNat ≤ units FloatKind.f32.format.binade r * 2 ^ (FloatKind.f32.format.leastPlace - (i + j)).toNat := by
    rw [← h3, ← g3] at h
    have e1 : m * 2 ^ (i - FloatKind.f32.format.leastPlace).toNat * (n * 2 ^ (j - FloatKind.f32.format.leastPlace).toNat) = m * n * 2 ^ ((i - FloatKind.f32.format.leastPlace).toNat + (j - FloatKind.f32.format.leastPlace).toNat) := by
      rw [Nat.pow_add]; simp only [Nat.mul_comm, Nat.mul_left_comm, Nat.mul_assoc]
    rw [e1] at h
    rw [lp] at h2 g2 h ⊢
    by_cases hij : -149 ≤ i + j
    · have z : (-149 - (i + j)).toNat = 0 := by omega
      rw [z, Nat.pow_zero, Nat.mul_one]
      have e2 : (i - -149).toNat + (j - -149).toNat = (i + j - -149).toNat + 149 := by omega
      rw [e2, Nat.pow_add, ← Nat.mul_assoc] at h
      exact Nat.le_of_mul_le_mul_right h (Nat.two_pow_pos 149)
    · have z : (i + j - -149).toNat = 0 := by omega
      rw [z, Nat.pow_zero, Nat.mul_one]
      have e2 : 149 = (-149 - (i + j)).toNat + ((i - -149).toNat + (j - -149).toNat) := by omega
      have h' : m * n * 2 ^ ((i - -149).toNat + (j - -149).toNat) ≤ units FloatKind.f32.format.binade r * 2 ^ (-149 - (i + j)).toNat * 2 ^ ((i - -149).toNat + (j - -149).toNat) := by
        rw [Nat.mul_assoc (units FloatKind.f32.format.binade r), ← Nat.pow_add, ← e2]; exact h
      exact Nat.le_of_mul_le_mul_right h' (Nat.two_pow_pos _)
  obtain ⟨r', k1, k2, k3⟩ := nearest_le .f32 (false ^^ false) key
  rw [inf32] at k2
  first
    | (rw [k3]; exact ⟨k1, k2⟩)
    | (have k3' : FloatKind.f32.format.nearest false (m * n) (i + j) = r' := k3
       rw [k3']; exact ⟨k1, k2⟩)
theorem less_eq {x y : Nat} (hx : x ≤ 2139095040) (hy : y ≤ 2139095040) : (bif fops.cmp .lss .f32 x y then x else y) = (bif fops.cmp .lss .f32 y x then y else x) := by
  have nn : ∀ {z : Nat}, z ≤ 2139095040 → nanb .f32 z = false := by
    intro z hz
    unfold nanb FloatKind.decode
    rw [read_nan, sw32, inf32]
    simp; omega
  have kk : ∀ {z : Nat}, z ≤ 2139095040 → key .f32 z = z := by
    intro z hz
    unfold key
    rw [neg_small (by omega), rung_small (by omega)]; rfl
  rw [cmp_lss, cmp_lss, nn hx, nn hy, kk hx, kk hy]
  rcases Nat.lt_trichotomy x y with h | rfl | h
  · have a1 : (x : Int) < y := by omega
    have a2 : ¬ (y : Int) < x := by omega
    simp [a1, a2]
  · simp
  · have a1 : (y : Int) < x := by omega
    have a2 : ¬ (x : Int) < y := by omega
    simp [a1, a2]
theorem product_comm (a b : Ieee.Datum) : a.product b = b.product a := by
  cases a <;> cases b <;> simp only [Ieee.Datum.product]
  · rename_i s m i t n j
    rw [Bool.xor_comm s t, Nat.mul_comm m n, Int.add_comm i j]
  · rename_i s t
    rw [Bool.xor_comm s t]
theorem mul_comm_f (k : FloatKind) (x y : Nat) : fops.bin .mul k x y = fops.bin .mul k y x := by
  show (((k.format.read x).product (k.format.read y)).map k.format.write).getD (qnan k) = (((k.format.read y).product (k.format.read x)).map k.format.write).getD (qnan k)
  rw [product_comm]
/-- A sum of two that are not negative is not negative. -/
theorem add_pos {x y : Nat} (hx : x < 2139095040) (hy : y ≤ 2139095040) : fops.bin .add .f32 x y ≤ 2139095040 := by
  have hdef : fops.bin .add .f32 x y = (((FloatKind.f32.format.read x).sum (FloatKind.f32.format.read y)).map FloatKind.f32.format.write).getD (qnan .f32) := rfl
  obtain ⟨m, i, h1, h2, h3⟩ := fin_read (fin_small hx)
  rw [neg_small (by omega)] at h1
  rcases Nat.lt_or_eq_of_le hy with hy' | hy'
  · obtain ⟨n, j, g1, g2, g3⟩ := fin_read (fin_small hy')
    rw [neg_small (by omega)] at g1
    rw [hdef, h1, g1]
    simp only [Ieee.Datum.sum, Option.map_some, Option.getD_some, Ieee.Format.write]
    have s1 : ∀ (a b : Nat), Ieee.signed false a b = ((a <<< b : Nat) : Int) := fun a b => by simp [Ieee.signed]
    rw [s1, s1]
    generalize m <<< (i - min i j).toNat = a
    generalize n <<< (j - min i j).toNat = b
    have hneg : (if (a : Int) + (b : Int) = 0 then (false && false) else decide ((a : Int) + (b : Int) < 0)) = false := by
      split
      · rfl
      · simp; omega
    rw [hneg]
    unfold Ieee.Format.nearest
    split
    · rw [word_false]; decide
    · rw [word_false, inf32]
      exact Nat.min_le_right _ _
  · subst hy'
    have hi : FloatKind.f32.format.read 2139095040 = .infinity false := by decide +kernel
    rw [hdef, h1, hi]
    simp only [Ieee.Datum.sum, Option.map_some, Option.getD_some, Ieee.Format.write, word_false, inf32]
    exact Nat.le_refl _
end Go.Proofs.Ytaoeigofmfpamaa
end
