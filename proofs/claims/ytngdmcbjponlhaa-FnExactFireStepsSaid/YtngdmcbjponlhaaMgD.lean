/- Parts of a proof, merged: SlWood, Ar, As, Log, Fn, Stp, Stv, Sto, Brn, Aly, Bd, Stq, Lst, Lgc, Gl, Fir0, Fir1. Nothing is assumed. -/
import Derived.Test.YtngdmcbjponlhaaMgC
/- Slices of Wood: how they are made, compared and marked. Nothing is assumed. -/
section
namespace Go.Proofs.Ytngdmcbjponlhaa.SlWood
open Go
noncomputable def ts : List KK := [.flt .f32, .flt .f32, .flt .f32, .flt .f32, .flt .f32, .flt .f32, .flt .f32, .flt .f32, .flt .f32, .flt .f32, .flt .f32, .flt .f32, .flt .f32, .flt .f32, .flt .f32, .flt .f32, .flt .f32, .flt .f32]
noncomputable abbrev Row (F : Nat → Int → Nat) (G : Nat → Int → Int) : Int → List SC := rowK ts F G
theorem shape_row (F : Nat → Int → Nat) (G : Nat → Int → Int) : Shape ts (Row F G) := by
  unfold Shape
  funext j
  rfl
/-! ### made anew -/
noncomputable def skT : Sk := ⟨[(0, .c (.sl 1 0 18 false)), (3, .c (.sl 2 0 18 true)), (4, .c (.int .i64))], [(1, ⟨false, false, .rows 18⟩), (2, ⟨true, true, .rows 18⟩)], 3⟩
noncomputable def skTE : Sk := ⟨[(3, .c (.sl 2 0 18 true))], [(1, ⟨false, false, .rows 18⟩), (2, ⟨true, true, .rows 18⟩)], 3⟩
noncomputable def cxT (O : FOps) : Cx := ⟨Try.prog, O, orcN Try.prog O [] 8⟩
noncomputable def toN : Nat := Try.f53.ntmps
noncomputable def onT (b : Bool) (t : Nat) : Option Bool := bif Nat.beq t 11 then some b else none
noncomputable def goT (O : FOps) (b : Bool) (sk : Sk) (F : Nat → Int → Nat) (G : Nat → Int → Int) (X : Nat → Int → Nat) (Y : Nat → Int → Int) (n k : Int) : Option (Option XK × List LD × List Bool) :=
  goL (cxT O) toN ⟨onT b, fun _ => none⟩ (bodyOf Try.f53 3) 3 60 skT [] sk [.i n, .i n, .i k, .i n, .r (Row F G), .i n, .r (Row X Y)]
set_option maxRecDepth 100000 in
theorem to_step (O : FOps) (F : Nat → Int → Nat) (G : Nat → Int → Int) (X : Nat → Int → Nat) (Y : Nat → Int → Int) (n k : Int) : goT O true skT F G X Y n k =
    some (none, [.i n, .i n, .i (IntKind.i64.wrap (k + 1)), .i n, .r (Row F G), .i n, .r (Row (fun c j => bif decide (j = k) then F c k else X c j) (fun c j => bif decide (j = k) then G c k else Y c j))],
      [decide (k < n), decide (0 ≤ k ∧ k < n), decide (0 ≤ k ∧ k < n), decide (0 ≤ k ∧ k < n), decide (0 ≤ k ∧ k < n), flatR (Row F G), flatR (Row (fun c j => bif decide (j = k) then F c k else X c j) (fun c j => bif decide (j = k) then G c k else Y c j))]) := by kernel_rfl
set_option maxRecDepth 100000 in
theorem to_end (O : FOps) (F : Nat → Int → Nat) (G : Nat → Int → Int) (X : Nat → Int → Nat) (Y : Nat → Int → Int) (n k : Int) : goT O false skTE F G X Y n k =
    some (some (.exit 0), [.i n, .i n, .r (Row F G), .i n, .r (Row X Y)], [!decide (k < n), flatR (Row F G), flatR (Row X Y)]) := by kernel_rfl
noncomputable def PreT (n m k n1 : Int) (row : Int → List SC) (n2 : Int) (out : Int → List SC) : Prop :=
  m = n ∧ k = 0 ∧ n1 = n ∧ n2 = n ∧ 0 ≤ n ∧ n ≤ 1048576 ∧ Shape ts row ∧ out = Row (fun _ _ => 0) (fun _ _ => 0)
noncomputable def FT : List LD → Option (XO × List Bool)
  | [.i n, .i m, .i k, .i n1, .r row, .i n2, .r out] => some ([(.t, .exit 0, skTE, [.i n, .i n, .r row, .i n, .r (Row (clF n (datF row)) (clG n (datG row)))])], [pB (PreT n m k n1 row n2 out)])
  | _ => none
theorem to_loops (F : Nat → Int → Nat) (G : Nat → Int → Int) (n : Int) (hn : n ≤ 1048576) : ∀ (m : Nat) (k : Int), 0 ≤ k → k + m = n →
    Loops (cxT fops) toN (fun _ => none) (bodyOf Try.f53 3) 3 60 skT [.i n, .i n, .i k, .i n, .r (Row F G), .i n, .r (Row (clF k F) (clG k G))] (.exit 0) skTE [.i n, .i n, .r (Row F G), .i n, .r (Row (clF n F) (clG n G))] := by
  intro m
  induction m with
  | zero =>
    intro k hk hkn
    have e : k = n := by omega
    subst e
    refine .done (ts := onT false) (ρ := []) (to_end fops F G (clF k F) (clG k G) k k) ?_
    refine AllT.cons (by simp) (AllT.cons (rowK_flat _ _ _) (AllT.cons (rowK_flat _ _ _) AllT.nil))
  | succ m ih =>
    intro k hk hkn
    have h1 := to_step fops F G (clF k F) (clG k G) n k
    rw [clF_step hk, clG_step hk, wrap_succ hk (by omega)] at h1
    have hd : decide (k < n) = true := by simp; omega
    have hd2 : decide (0 ≤ k ∧ k < n) = true := by simp; omega
    exact .step (ts := onT true) (ρ := []) h1 (AllT.cons hd (AllT.cons hd2 (AllT.cons hd2 (AllT.cons hd2 (AllT.cons hd2 (AllT.cons (rowK_flat _ _ _) (AllT.cons (rowK_flat _ _ _) AllT.nil))))))) (ih (k + 1) (by omega) (by omega))
noncomputable def LT (O : FOps) : List Ly → Top → Option Outs := orIter (cxT O) toN (bodyOf Try.f53 3) (loopL toN 3 60 skT [] FT)
set_option maxRecDepth 100000 in
theorem okT : CodeOK Try.prog toN (.loop (bodyOf Try.f53 3)) (LT fops) := by
  refine orIter_ok (l := []) trivial mixed 8 (loopL_ok (cx := cxT fops) (lp := fun _ => none) (fun ts => body_ok (l := []) trivial mixed 8 _ ts) fun p r hr hob => ?_)
  unfold FT at hr
  split at hr <;> cases hr
  rename_i n m k n1 row n2 out
  obtain ⟨e1, e2, e3, e4, h0, hm, hs, e5⟩ := pB_iff.1 hob.head
  refine ⟨_, _, _, rfl, ?_⟩
  have h1 := to_loops (datF row) (datG row) n hm n.toNat 0 (Int.le_refl _) (by omega)
  rw [clF_zero, clG_zero] at h1
  rw [e1, e2, e3, e4, e5, hs]
  exact h1
/-- The contract of laws.toWoodS. -/
noncomputable def toS (O : FOps) : CS := canS (inl (cxT O) Try.f53 ⟨fun _ => none, lpOf [(3, LT O)]⟩)
set_option maxRecDepth 100000 in
theorem cTo : CallOK Try.prog 53 (toS fops) := by
  have hb : Try.f53.body.isSome = true := by kernel_rfl
  obtain ⟨c, hc⟩ := Option.isSome_iff_exists.1 hb
  have h1 : (match Try.f53.body with | some c => onceB (loopsIn c) && (match loopAt 3 (loopsIn c) with | some _ => true | none => false) | none => false) = true := by kernel_rfl
  rw [hc] at h1
  simp only [Bool.and_eq_true] at h1
  exact (inlL_of (l := []) (ls := [(3, LT fops)]) trivial mixed 8 Try.func53 (by kernel_rfl) (fun _ => none) hc h1.1 ⟨⟨_, bodyOf_at hc h1.2, okT⟩, trivial⟩).can
/-! ### compared -/
noncomputable def q (O : FOps) (F : Nat → Int → Nat) (G : Nat → Int → Int) (H : Nat → Int → Nat) (I : Nat → Int → Int) (k : Int) : Bool := eqW O (back fun c => F c k) (back fun c => H c k)
noncomputable def skQ : Sk := ⟨[(0, .c (.sl 2 0 18 false)), (1, .c (.sl 1 0 18 false)), (5, .c (.int .i64))], [(1, ⟨false, false, .rows 18⟩), (2, ⟨false, false, .rows 18⟩)], 3⟩
noncomputable def skQR : Sk := ⟨[(4, .c (.boolc false))], [(1, ⟨false, false, .rows 18⟩), (2, ⟨false, false, .rows 18⟩)], 3⟩
noncomputable def skQE : Sk := ⟨[], [(1, ⟨false, false, .rows 18⟩), (2, ⟨false, false, .rows 18⟩)], 3⟩
noncomputable def LQ (O : FOps) : List (Nat × CS) := [(34, gS (eqG O))]
set_option maxRecDepth 100000 in
theorem okLQ : AllOK Try.prog (LQ fops) := ⟨cEq, trivial⟩
noncomputable def cxQ (O : FOps) : Cx := ⟨Try.prog, O, orcN Try.prog O (LQ O) 8⟩
noncomputable def eqN : Nat := Try.f56.ntmps
noncomputable def onQ (a b : Bool) (t : Nat) : Option Bool := bif Nat.beq t 14 then some a else bif Nat.beq t 26 then some b else none
noncomputable def goQ (O : FOps) (a b : Bool) (sk : Sk) (F : Nat → Int → Nat) (G : Nat → Int → Int) (H : Nat → Int → Nat) (I : Nat → Int → Int) (n m k : Int) : Option (Option XK × List LD × List Bool) :=
  goL (cxQ O) eqN ⟨onQ a b, fun _ => none⟩ (bodyOf Try.f56 4) 3 60 skQ [] sk [.i n, .i m, .i k, .i m, .r (Row H I), .i n, .r (Row F G)]
noncomputable def idx (n m k : Int) : List Bool := [decide (k < n), decide (0 ≤ k ∧ k < n), decide (0 ≤ k ∧ k < n), decide (0 ≤ k ∧ k < m), decide (0 ≤ k ∧ k < m)]
set_option maxRecDepth 100000 in
theorem eq_step (O : FOps) (F : Nat → Int → Nat) (G : Nat → Int → Int) (H : Nat → Int → Nat) (I : Nat → Int → Int) (n m k : Int) : goQ O true false skQ F G H I n m k =
    some (none, [.i n, .i m, .i (IntKind.i64.wrap (k + 1)), .i m, .r (Row H I), .i n, .r (Row F G)], idx n m k ++ [!!(q O F G H I k), flatR (Row H I), flatR (Row F G)]) := by kernel_rfl
set_option maxRecDepth 100000 in
theorem eq_ret (O : FOps) (F : Nat → Int → Nat) (G : Nat → Int → Int) (H : Nat → Int → Nat) (I : Nat → Int → Int) (n m k : Int) : goQ O true true skQR F G H I n m k =
    some (some .ret, [.i m, .r (Row H I), .i n, .r (Row F G)], idx n m k ++ [!(q O F G H I k), flatR (Row H I), flatR (Row F G)]) := by kernel_rfl
set_option maxRecDepth 100000 in
theorem eq_end (O : FOps) (F : Nat → Int → Nat) (G : Nat → Int → Int) (H : Nat → Int → Nat) (I : Nat → Int → Int) (n m k : Int) : goQ O false true skQE F G H I n m k =
    some (some (.exit 0), [.i m, .r (Row H I), .i n, .r (Row F G)], [!decide (k < n), flatR (Row H I), flatR (Row F G)]) := by kernel_rfl
theorem idx_ok {n k : Int} (h0 : 0 ≤ k) (h1 : k < n) : AllT (idx n n k) := by
  have h2 : decide (0 ≤ k ∧ k < n) = true := by simp; omega
  exact AllT.cons (by simpa using h1) (AllT.cons h2 (AllT.cons h2 (AllT.cons h2 (AllT.cons h2 AllT.nil))))
theorem eq_loops (F : Nat → Int → Nat) (G : Nat → Int → Int) (H : Nat → Int → Nat) (I : Nat → Int → Int) (n : Int) (hn : n ≤ 1048576) : ∀ (m : Nat) (k : Int), 0 ≤ k → k + m = n →
    (eqFrom (q fops F G H I) k m = true → Loops (cxQ fops) eqN (fun _ => none) (bodyOf Try.f56 4) 3 60 skQ [.i n, .i n, .i k, .i n, .r (Row H I), .i n, .r (Row F G)] (.exit 0) skQE [.i n, .r (Row H I), .i n, .r (Row F G)]) ∧
    (eqFrom (q fops F G H I) k m = false → Loops (cxQ fops) eqN (fun _ => none) (bodyOf Try.f56 4) 3 60 skQ [.i n, .i n, .i k, .i n, .r (Row H I), .i n, .r (Row F G)] .ret skQR [.i n, .r (Row H I), .i n, .r (Row F G)]) := by
  have fl : AllT [flatR (Row H I), flatR (Row F G)] := AllT.cons (rowK_flat _ _ _) (AllT.cons (rowK_flat _ _ _) AllT.nil)
  intro m
  induction m with
  | zero =>
    intro k hk hkn
    have e : k = n := by omega
    subst e
    refine ⟨fun _ => .done (ts := onQ false true) (ρ := []) (eq_end fops F G H I k k k) (AllT.cons (by simp) fl), fun h => by cases h⟩
  | succ m ih =>
    intro k hk hkn
    have hlt : k < n := by omega
    obtain ⟨i1, i2⟩ := ih (k + 1) (by omega) (by omega)
    have hE : eqFrom (q fops F G H I) k (m + 1) = bif q fops F G H I k then eqFrom (q fops F G H I) (k + 1) m else false := rfl
    rw [hE]
    cases hq : q fops F G H I k with
    | true =>
      have h1 := eq_step fops F G H I n n k
      rw [wrap_succ hk (by omega)] at h1
      have ho : AllT (idx n n k ++ [!!(q fops F G H I k), flatR (Row H I), flatR (Row F G)]) := AllT.app (idx_ok hk hlt) (AllT.cons (by rw [hq]; rfl) fl)
      exact ⟨fun h => .step (ts := onQ true false) (ρ := []) h1 ho (i1 h), fun h => .step (ts := onQ true false) (ρ := []) h1 ho (i2 h)⟩
    | false =>
      refine ⟨fun h => (by cases h), fun _ => .done (ts := onQ true true) (ρ := []) (eq_ret fops F G H I n n k) (AllT.app (idx_ok hk hlt) (AllT.cons (by rw [hq]; rfl) fl))⟩
def PreQ (n m k n1 : Int) (row : Int → List SC) (m1 : Int) (row' : Int → List SC) : Prop :=
  m = n ∧ k = 0 ∧ n1 = n ∧ m1 = n ∧ 0 ≤ n ∧ n ≤ 1048576 ∧ Shape ts row ∧ Shape ts row'
noncomputable def FQ (O : FOps) : List LD → Option (XO × List Bool)
  | [.i n, .i m, .i k, .i m1, .r row', .i n1, .r row] => some ([(.s (!eqFrom (q O (datF row) (datG row) (datF row') (datG row')) 0 n.toNat), .ret, skQR, [.i m, .r row', .i n, .r row]), (.t, .exit 0, skQE, [.i m, .r row', .i n, .r row])], [pB (PreQ n m k n1 row m1 row')])
  | _ => none
noncomputable def LE (O : FOps) : List Ly → Top → Option Outs := orIter (cxQ O) eqN (bodyOf Try.f56 4) (loopL eqN 3 60 skQ [] (FQ O))
set_option maxRecDepth 100000 in
theorem okE : CodeOK Try.prog eqN (.loop (bodyOf Try.f56 4)) (LE fops) := by
  refine orIter_ok (l := LQ fops) okLQ mixed 8 (loopL_ok (cx := cxQ fops) (lp := fun _ => none) (fun ts => body_ok (l := LQ fops) okLQ mixed 8 _ ts) fun p r hr hob => ?_)
  unfold FQ at hr
  split at hr <;> cases hr
  rename_i n m k m1 row' n1 row
  obtain ⟨e1, e2, e3, e4, h0, hm, hs, hs'⟩ := pB_iff.1 hob.head
  obtain ⟨h1, h2⟩ := eq_loops (datF row) (datG row) (datF row') (datG row') n hm n.toNat 0 (Int.le_refl _) (by omega)
  have hs1 : Row (datF row) (datG row) = row := hs.symm
  have hs2 : Row (datF row') (datG row') = row' := hs'.symm
  rw [hs1, hs2] at h1 h2
  rw [e1, e2, e3, e4]
  cases hq : eqFrom (q fops (datF row) (datG row) (datF row') (datG row')) 0 n.toNat with
  | true => exact ⟨_, _, _, by simp [pickX, SB.val], h1 hq⟩
  | false => exact ⟨_, _, _, by simp [pickX, SB.val], h2 hq⟩
/-- The contract of laws.eqWoodS. -/
noncomputable def eqS (O : FOps) : CS := roS (canS (inl (cxQ O) Try.f56 ⟨fun _ => none, lpOf [(4, LE O)]⟩))
set_option maxRecDepth 100000 in
theorem cEqS : CallOK Try.prog 56 (eqS fops) := by
  have hb : Try.f56.body.isSome = true := by kernel_rfl
  obtain ⟨c, hc⟩ := Option.isSome_iff_exists.1 hb
  have h1 : (match Try.f56.body with | some c => onceB (loopsIn c) && (match loopAt 4 (loopsIn c) with | some _ => true | none => false) | none => false) = true := by kernel_rfl
  rw [hc] at h1
  simp only [Bool.and_eq_true] at h1
  exact (inlL_of (l := LQ fops) (ls := [(4, LE fops)]) okLQ mixed 8 Try.func56 (by kernel_rfl) (fun _ => none) hc h1.1 ⟨⟨_, bodyOf_at hc h1.2, okE⟩, trivial⟩).can.ro
theorem q_self (F : Nat → Int → Nat) (G : Nat → Int → Int) (m : Nat) : eqFrom (q fops F G F G) 0 m = true := eqFrom_all (fun k => by unfold q; exact eqW_self _) m 0
/-! ### marked -/
noncomputable def mkF (O : FOps) (u : Int) (k : Int) (X : Nat → Int → Nat) (c : Nat) (j : Int) : Nat := bif decide (0 ≤ j) && decide (j < k) then O.ofInt .f32 (wr (u + 18 * j) c) else X c j
noncomputable def mkG (u : Int) (k : Int) (Y : Nat → Int → Int) (c : Nat) (j : Int) : Int := bif decide (0 ≤ j) && decide (j < k) then wr (u + 18 * j) c else Y c j
theorem mkF_zero (O : FOps) (u : Int) (X : Nat → Int → Nat) : mkF O u 0 X = X := by
  funext c j
  unfold mkF
  by_cases h : 0 ≤ j
  · rw [decide_eq_false (by omega : ¬ j < 0), Bool.and_false]; rfl
  · rw [decide_eq_false h]; rfl
theorem mkG_zero (u : Int) (X : Nat → Int → Int) : mkG u 0 X = X := by
  funext c j
  unfold mkG
  by_cases h : 0 ≤ j
  · rw [decide_eq_false (by omega : ¬ j < 0), Bool.and_false]; rfl
  · rw [decide_eq_false h]; rfl
theorem mkF_step {k : Int} (hk : 0 ≤ k) (O : FOps) (u : Int) (X : Nat → Int → Nat) : (fun c j => bif decide (j = k) then O.ofInt .f32 (wr (u + 18 * k) c) else mkF O u k X c j) = mkF O u (k + 1) X := by
  funext c j
  unfold mkF
  by_cases e : j = k
  · subst e
    have h1 : j < j + 1 := by omega
    simp [hk, h1]
  · rw [decide_eq_false e]
    by_cases h : j < k
    · rw [decide_eq_true h, decide_eq_true (by omega : j < k + 1)]; rfl
    · rw [decide_eq_false h, decide_eq_false (by omega : ¬ j < k + 1)]; rfl
theorem mkG_step {k : Int} (hk : 0 ≤ k) (u : Int) (X : Nat → Int → Int) : (fun c j => bif decide (j = k) then wr (u + 18 * k) c else mkG u k X c j) = mkG u (k + 1) X := by
  funext c j
  unfold mkG
  by_cases e : j = k
  · subst e
    have h1 : j < j + 1 := by omega
    simp [hk, h1]
  · rw [decide_eq_false e]
    by_cases h : j < k
    · rw [decide_eq_true h, decide_eq_true (by omega : j < k + 1)]; rfl
    · rw [decide_eq_false h, decide_eq_false (by omega : ¬ j < k + 1)]; rfl
noncomputable def skM : Sk := ⟨[(0, .c (.sl 1 0 18 false)), (1, .c (.int .i64)), (5, .c (.int .i64))], [(1, ⟨true, false, .rows 18⟩)], 2⟩
noncomputable def skME : Sk := ⟨[(1, .c (.int .i64))], [(1, ⟨true, false, .rows 18⟩)], 2⟩
noncomputable def maN : Nat := Try.f62.ntmps
noncomputable def onM (b : Bool) (t : Nat) : Option Bool := bif Nat.beq t 12 then some b else none
noncomputable def goM (O : FOps) (b : Bool) (sk : Sk) (X : Nat → Int → Nat) (Y : Nat → Int → Int) (n u k : Int) : Option (Option XK × List LD × List Bool) :=
  goL (cxT O) maN ⟨onM b, fun _ => none⟩ (bodyOf Try.f62 2) 2 60 skM [] sk [.i n, .i u, .i k, .i n, .r (Row X Y)]
set_option maxRecDepth 100000 in
theorem ma_step (O : FOps) (X : Nat → Int → Nat) (Y : Nat → Int → Int) (n u k : Int) : goM O true skM X Y n u k =
    some (none, [.i n, .i (wr u 18), .i (IntKind.i64.wrap (k + 1)), .i n, .r (Row (fun c j => bif decide (j = k) then O.ofInt .f32 (wr u c) else X c j) (fun c j => bif decide (j = k) then wr u c else Y c j))],
      decide (k < n) :: (List.replicate 36 (decide (0 ≤ k ∧ k < n)) ++ [flatR (Row (fun c j => bif decide (j = k) then O.ofInt .f32 (wr u c) else X c j) (fun c j => bif decide (j = k) then wr u c else Y c j))])) := by kernel_rfl
set_option maxRecDepth 100000 in
theorem ma_end (O : FOps) (X : Nat → Int → Nat) (Y : Nat → Int → Int) (n u k : Int) : goM O false skME X Y n u k = some (some (.exit 0), [.i u, .i n, .r (Row X Y)], [!decide (k < n), flatR (Row X Y)]) := by kernel_rfl
theorem ma_loops (n u : Int) (X : Nat → Int → Nat) (Y : Nat → Int → Int) (hn : n ≤ 1048576) (hu : 0 ≤ u) (hu2 : u ≤ 50000000) : ∀ (m : Nat) (k : Int), 0 ≤ k → k + m = n →
    Loops (cxT fops) maN (fun _ => none) (bodyOf Try.f62 2) 2 60 skM [.i n, .i (u + 18 * k), .i k, .i n, .r (Row (mkF fops u k X) (mkG u k Y))] (.exit 0) skME [.i (u + 18 * n), .i n, .r (Row (mkF fops u n X) (mkG u n Y))] := by
  intro m
  induction m with
  | zero =>
    intro k hk hkn
    have e : k = n := by omega
    subst e
    exact .done (ts := onM false) (ρ := []) (ma_end fops (mkF fops u k X) (mkG u k Y) k (u + 18 * k) k) (AllT.cons (by simp) (AllT.cons (rowK_flat _ _ _) AllT.nil))
  | succ m ih =>
    intro k hk hkn
    have h1 := ma_step fops (mkF fops u k X) (mkG u k Y) n (u + 18 * k) k
    have hw : wr (u + 18 * k) 18 = u + 18 * (k + 1) := by rw [wr_eq (by omega) (by omega)]; omega
    rw [mkF_step hk, mkG_step hk, hw, wrap_succ hk (by omega)] at h1
    have hd : decide (k < n) = true := by simp; omega
    have hd2 : decide (0 ≤ k ∧ k < n) = true := by simp; omega
    exact .step (ts := onM true) (ρ := []) h1 (AllT.cons hd (AllT.app (AllT.rep hd2 _) (AllT.cons (rowK_flat _ _ _) AllT.nil))) (ih (k + 1) (by omega) (by omega))
def PreM (n u k n1 : Int) (row : Int → List SC) : Prop := k = 0 ∧ n1 = n ∧ 0 ≤ n ∧ n ≤ 1048576 ∧ 0 ≤ u ∧ u ≤ 50000000 ∧ Shape ts row
noncomputable def FM (O : FOps) : List LD → Option (XO × List Bool)
  | [.i n, .i u, .i k, .i n1, .r row] => some ([(.t, .exit 0, skME, [.i (u + 18 * n), .i n, .r (Row (mkF O u n (datF row)) (mkG u n (datG row)))])], [pB (PreM n u k n1 row)])
  | _ => none
noncomputable def LM (O : FOps) : List Ly → Top → Option Outs := orIter (cxT O) maN (bodyOf Try.f62 2) (loopL maN 2 60 skM [] (FM O))
set_option maxRecDepth 100000 in
theorem okM : CodeOK Try.prog maN (.loop (bodyOf Try.f62 2)) (LM fops) := by
  refine orIter_ok (l := []) trivial mixed 8 (loopL_ok (cx := cxT fops) (lp := fun _ => none) (fun ts => body_ok (l := []) trivial mixed 8 _ ts) fun p r hr hob => ?_)
  unfold FM at hr
  split at hr <;> cases hr
  rename_i n u k n1 row
  obtain ⟨e1, e2, h0, hm, hu, hu1, hs⟩ := pB_iff.1 hob.head
  refine ⟨_, _, _, rfl, ?_⟩
  have h1 := ma_loops n u (datF row) (datG row) hm hu hu1 n.toNat 0 (Int.le_refl _) (by omega)
  have hs1 : Row (datF row) (datG row) = row := hs.symm
  rw [mkF_zero, mkG_zero, hs1, Int.mul_zero, Int.add_zero] at h1
  rw [e1, e2]
  exact h1
/-- The contract of laws.markWoodS. -/
noncomputable def maS (O : FOps) : CS := canS (inl (cxT O) Try.f62 ⟨fun _ => none, lpOf [(2, LM O)]⟩)
set_option maxRecDepth 100000 in
theorem cMa : CallOK Try.prog 62 (maS fops) := by
  have hb : Try.f62.body.isSome = true := by kernel_rfl
  obtain ⟨c, hc⟩ := Option.isSome_iff_exists.1 hb
  have h1 : (match Try.f62.body with | some c => onceB (loopsIn c) && (match loopAt 2 (loopsIn c) with | some _ => true | none => false) | none => false) = true := by kernel_rfl
  rw [hc] at h1
  simp only [Bool.and_eq_true] at h1
  exact (inlL_of (l := []) (ls := [(2, LM fops)]) trivial mixed 8 Try.func62 (by kernel_rfl) (fun _ => none) hc h1.1 ⟨⟨_, bodyOf_at hc h1.2, okM⟩, trivial⟩).can
/-! ### held -/
theorem int_num (k : FloatKind) (n : Int) : nanb k (fops.ofInt k n) = false := write_not_nan k.format (.number (n < 0) n.natAbs 0) rfl
noncomputable def skH : Sk := ⟨[(0, .c (.sl 1 0 18 false)), (1, .c (.int .i64)), (5, .c (.int .i64))], [(1, ⟨false, false, .rows 18⟩)], 2⟩
noncomputable def skHE : Sk := ⟨[(1, .c (.int .i64))], [], 2⟩
noncomputable def heN : Nat := Try.f63.ntmps
noncomputable def onH (b : Bool) (t : Nat) : Option Bool := bif Nat.beq t 12 then some b else bif Nat.beq t 28 then some false else bif Nat.beq t 44 then some false else bif Nat.beq t 60 then some false else none
noncomputable def goH (O : FOps) (b : Bool) (sk : Sk) (F : Nat → Int → Nat) (G : Nat → Int → Int) (n u k : Int) : Option (Option XK × List LD × List Bool) :=
  goL (cxT O) heN ⟨onH b, fun _ => none⟩ (bodyOf Try.f63 2) 2 60 skH [] sk [.i n, .i u, .i k, .i n, .r (Row F G)]
noncomputable def hob (O : FOps) (F : Nat → Int → Nat) (G : Nat → Int → Int) (n u k : Int) : List Bool := [decide (k < n), decide (0 ≤ k ∧ k < n), decide (0 ≤ k ∧ k < n), !O.cmp .neq .f32 (F 0 k) (O.ofInt .f32 (wr u 0)), decide (0 ≤ k ∧ k < n), decide (0 ≤ k ∧ k < n), !O.cmp .neq .f32 (F 1 k) (O.ofInt .f32 (wr u 1)), decide (0 ≤ k ∧ k < n), decide (0 ≤ k ∧ k < n), !O.cmp .neq .f32 (F 2 k) (O.ofInt .f32 (wr u 2)), decide (0 ≤ k ∧ k < n), decide (0 ≤ k ∧ k < n), !O.cmp .neq .f32 (F 3 k) (O.ofInt .f32 (wr u 3)), decide (0 ≤ k ∧ k < n), decide (0 ≤ k ∧ k < n), !O.cmp .neq .f32 (F 4 k) (O.ofInt .f32 (wr u 4)), decide (0 ≤ k ∧ k < n), decide (0 ≤ k ∧ k < n), !O.cmp .neq .f32 (F 5 k) (O.ofInt .f32 (wr u 5)), decide (0 ≤ k ∧ k < n), decide (0 ≤ k ∧ k < n), !O.cmp .neq .f32 (F 6 k) (O.ofInt .f32 (wr u 6)), decide (0 ≤ k ∧ k < n), decide (0 ≤ k ∧ k < n), !O.cmp .neq .f32 (F 7 k) (O.ofInt .f32 (wr u 7)), decide (0 ≤ k ∧ k < n), decide (0 ≤ k ∧ k < n), !O.cmp .neq .f32 (F 8 k) (O.ofInt .f32 (wr u 8)), decide (0 ≤ k ∧ k < n), decide (0 ≤ k ∧ k < n), !O.cmp .neq .f32 (F 9 k) (O.ofInt .f32 (wr u 9)), decide (0 ≤ k ∧ k < n), decide (0 ≤ k ∧ k < n), !O.cmp .neq .f32 (F 10 k) (O.ofInt .f32 (wr u 10)), decide (0 ≤ k ∧ k < n), decide (0 ≤ k ∧ k < n), !O.cmp .neq .f32 (F 11 k) (O.ofInt .f32 (wr u 11)), decide (0 ≤ k ∧ k < n), decide (0 ≤ k ∧ k < n), !O.cmp .neq .f32 (F 12 k) (O.ofInt .f32 (wr u 12)), decide (0 ≤ k ∧ k < n), decide (0 ≤ k ∧ k < n), !O.cmp .neq .f32 (F 13 k) (O.ofInt .f32 (wr u 13)), decide (0 ≤ k ∧ k < n), decide (0 ≤ k ∧ k < n), !O.cmp .neq .f32 (F 14 k) (O.ofInt .f32 (wr u 14)), decide (0 ≤ k ∧ k < n), decide (0 ≤ k ∧ k < n), !O.cmp .neq .f32 (F 15 k) (O.ofInt .f32 (wr u 15)), decide (0 ≤ k ∧ k < n), decide (0 ≤ k ∧ k < n), !O.cmp .neq .f32 (F 16 k) (O.ofInt .f32 (wr u 16)), decide (0 ≤ k ∧ k < n), decide (0 ≤ k ∧ k < n), !O.cmp .neq .f32 (F 17 k) (O.ofInt .f32 (wr u 17)), flatR (Row F G)]
set_option maxRecDepth 100000 in
theorem he_step (O : FOps) (F : Nat → Int → Nat) (G : Nat → Int → Int) (n u k : Int) : goH O true skH F G n u k =
    some (none, [.i n, .i (wr u 18), .i (IntKind.i64.wrap (k + 1)), .i n, .r (Row F G)], hob O F G n u k) := by kernel_rfl
set_option maxRecDepth 100000 in
theorem he_end (O : FOps) (F : Nat → Int → Nat) (G : Nat → Int → Int) (n u k : Int) : goH O false skHE F G n u k = some (some (.exit 0), [.i u], [!decide (k < n)]) := by kernel_rfl
theorem he_loops (n u : Int) (X : Nat → Int → Nat) (Y : Nat → Int → Int) (hn : n ≤ 1048576) (hu : 0 ≤ u) (hu2 : u ≤ 50000000) : ∀ (m : Nat) (k : Int), 0 ≤ k → k + m = n →
    Loops (cxT fops) heN (fun _ => none) (bodyOf Try.f63 2) 2 60 skH [.i n, .i (u + 18 * k), .i k, .i n, .r (Row (mkF fops u n X) (mkG u n Y))] (.exit 0) skHE [.i (u + 18 * n)] := by
  intro m
  induction m with
  | zero =>
    intro k hk hkn
    have e : k = n := by omega
    subst e
    exact .done (ts := onH false) (ρ := []) (he_end fops (mkF fops u k X) (mkG u k Y) k (u + 18 * k) k) (AllT.cons (by simp) AllT.nil)
  | succ m ih =>
    intro k hk hkn
    have h1 := he_step fops (mkF fops u n X) (mkG u n Y) n (u + 18 * k) k
    have hw : wr (u + 18 * k) 18 = u + 18 * (k + 1) := by rw [wr_eq (by omega) (by omega)]; omega
    rw [hw, wrap_succ hk (by omega)] at h1
    have hd : decide (k < n) = true := by simp; omega
    have hd2 : decide (0 ≤ k ∧ k < n) = true := by simp; omega
    have hg : (decide (0 ≤ k) && decide (k < n)) = true := by simp; omega
    have eF : ∀ c, mkF fops u n X c k = fops.ofInt .f32 (wr (u + 18 * k) c) := fun c => by unfold mkF; rw [hg]; rfl
    have eG : ∀ c, mkG u n Y c k = wr (u + 18 * k) c := fun c => by unfold mkG; rw [hg]; rfl
    have ho : AllT (hob fops (mkF fops u n X) (mkG u n Y) n (u + 18 * k) k) := AllT.cons hd (AllT.cons hd2 (AllT.cons hd2 (AllT.cons (by rw [eF, cmp_neq_self, int_num]; rfl) (AllT.cons hd2 (AllT.cons hd2 (AllT.cons (by rw [eF, cmp_neq_self, int_num]; rfl) (AllT.cons hd2 (AllT.cons hd2 (AllT.cons (by rw [eF, cmp_neq_self, int_num]; rfl) (AllT.cons hd2 (AllT.cons hd2 (AllT.cons (by rw [eF, cmp_neq_self, int_num]; rfl) (AllT.cons hd2 (AllT.cons hd2 (AllT.cons (by rw [eF, cmp_neq_self, int_num]; rfl) (AllT.cons hd2 (AllT.cons hd2 (AllT.cons (by rw [eF, cmp_neq_self, int_num]; rfl) (AllT.cons hd2 (AllT.cons hd2 (AllT.cons (by rw [eF, cmp_neq_self, int_num]; rfl) (AllT.cons hd2 (AllT.cons hd2 (AllT.cons (by rw [eF, cmp_neq_self, int_num]; rfl) (AllT.cons hd2 (AllT.cons hd2 (AllT.cons (by rw [eF, cmp_neq_self, int_num]; rfl) (AllT.cons hd2 (AllT.cons hd2 (AllT.cons (by rw [eF, cmp_neq_self, int_num]; rfl) (AllT.cons hd2 (AllT.cons hd2 (AllT.cons (by rw [eF, cmp_neq_self, int_num]; rfl) (AllT.cons hd2 (AllT.cons hd2 (AllT.cons (by rw [eF, cmp_neq_self, int_num]; rfl) (AllT.cons hd2 (AllT.cons hd2 (AllT.cons (by rw [eF, cmp_neq_self, int_num]; rfl) (AllT.cons hd2 (AllT.cons hd2 (AllT.cons (by rw [eF, cmp_neq_self, int_num]; rfl) (AllT.cons hd2 (AllT.cons hd2 (AllT.cons (by rw [eF, cmp_neq_self, int_num]; rfl) (AllT.cons hd2 (AllT.cons hd2 (AllT.cons (by rw [eF, cmp_neq_self, int_num]; rfl) (AllT.cons hd2 (AllT.cons hd2 (AllT.cons (by rw [eF, cmp_neq_self, int_num]; rfl) (AllT.cons hd2 (AllT.cons hd2 (AllT.cons (by rw [eF, cmp_neq_self, int_num]; rfl) (AllT.cons (rowK_flat _ _ _) AllT.nil)))))))))))))))))))))))))))))))))))))))))))))))))))))))
    exact .step (ts := onH true) (ρ := []) h1 ho (ih (k + 1) (by omega) (by omega))
/-- The rows are marked, from 'u' on. -/
def Marked (u n : Int) (row : Int → List SC) : Prop := ∃ X Y, row = Row (mkF fops u n X) (mkG u n Y)
def PreH (n u k n1 : Int) (row : Int → List SC) : Prop := k = 0 ∧ n1 = n ∧ 0 ≤ n ∧ n ≤ 1048576 ∧ 0 ≤ u ∧ u ≤ 50000000 ∧ Marked u n row
noncomputable def FH : List LD → Option (XO × List Bool)
  | [.i n, .i u, .i k, .i n1, .r row] => some ([(.t, .exit 0, skHE, [.i (u + 18 * n)])], [pB (PreH n u k n1 row)])
  | _ => none
noncomputable def LH (O : FOps) : List Ly → Top → Option Outs := orIter (cxT O) heN (bodyOf Try.f63 2) (loopL heN 2 60 skH [] FH)
set_option maxRecDepth 100000 in
theorem okH : CodeOK Try.prog heN (.loop (bodyOf Try.f63 2)) (LH fops) := by
  refine orIter_ok (l := []) trivial mixed 8 (loopL_ok (cx := cxT fops) (lp := fun _ => none) (fun ts => body_ok (l := []) trivial mixed 8 _ ts) fun p r hr hob => ?_)
  unfold FH at hr
  split at hr <;> cases hr
  rename_i n u k n1 row
  obtain ⟨e1, e2, h0, hm, hu, hu1, X, Y, hs⟩ := pB_iff.1 hob.head
  refine ⟨_, _, _, rfl, ?_⟩
  have h1 := he_loops n u X Y hm hu hu1 n.toNat 0 (Int.le_refl _) (by omega)
  rw [Int.mul_zero, Int.add_zero] at h1
  rw [e1, e2, hs]
  exact h1
/-- The contract of laws.heldWoodS. -/
noncomputable def heS (O : FOps) : CS := roS (canS (inl (cxT O) Try.f63 ⟨fun _ => none, lpOf [(2, LH O)]⟩))
set_option maxRecDepth 100000 in
theorem cHe : CallOK Try.prog 63 (heS fops) := by
  have hb : Try.f63.body.isSome = true := by kernel_rfl
  obtain ⟨c, hc⟩ := Option.isSome_iff_exists.1 hb
  have h1 : (match Try.f63.body with | some c => onceB (loopsIn c) && (match loopAt 2 (loopsIn c) with | some _ => true | none => false) | none => false) = true := by kernel_rfl
  rw [hc] at h1
  simp only [Bool.and_eq_true] at h1
  exact (inlL_of (l := []) (ls := [(2, LH fops)]) trivial mixed 8 Try.func63 (by kernel_rfl) (fun _ => none) hc h1.1 ⟨⟨_, bodyOf_at hc h1.2, okH⟩, trivial⟩).can.ro
/-! ### told by hand -/
noncomputable section
theorem shape_flat {row : Int → List SC} (h : Shape ts row) : flatR row = true := by rw [h]; exact rowK_flat _ _ _
/-- The rows of a copy. -/
def cpR (n : Int) (row : Int → List SC) : Int → List SC := Row (clF n (datF row)) (clG n (datG row))
/-- The rows when they are marked. -/
def mkR (O : FOps) (u n : Int) (row : Int → List SC) : Int → List SC := Row (mkF O u n (datF row)) (mkG u n (datG row))
def okN (n N : Int) (row : Int → List SC) : Bool := pB (N = n ∧ 0 ≤ n ∧ n ≤ 1048576 ∧ Shape ts row)
def okM' (n u N : Int) (row : Int → List SC) : Bool := pB (N = n ∧ 0 ≤ n ∧ n ≤ 1048576 ∧ 0 ≤ u ∧ u ≤ 50000000 ∧ Shape ts row)
def okH' (n u N : Int) (row : Int → List SC) : Bool := pB (N = n ∧ 0 ≤ n ∧ n ≤ 1048576 ∧ 0 ≤ u ∧ u ≤ 50000000 ∧ Marked u n row)
def okE' (n N : Int) (row : Int → List SC) (m M : Int) (row' : Int → List SC) : Bool := !decide (n = m) || pB (N = n ∧ M = n ∧ 0 ≤ n ∧ n ≤ 1048576 ∧ Shape ts row ∧ Shape ts row')
def eqR (O : FOps) (n m : Int) (row row' : Int → List SC) : Bool := bif !decide (n = m) then false else bif !eqFrom (q O (datF row) (datG row) (datF row') (datG row')) 0 n.toNat then false else true
theorem eqR_self (n : Int) (row : Int → List SC) : eqR fops n n row row = true := by
  unfold eqR
  rw [decide_eq_true rfl, q_self]
  rfl
def Z0 : Int → List SC := Row (fun _ _ => 0) (fun _ _ => 0)
set_option maxRecDepth 100000 in
theorem to_run (O : FOps) (f w o : Bool) (n N : Int) (row : Int → List SC) : nwS (inl (cxT O) Try.f53 ⟨fun _ => none, lpOf [(3, LT O)]⟩) 2 [.c (.sl 1 0 18 (.s n) f)] [(1, ⟨w, o, .rows 18 N row⟩)] =
    some ⟨.c (.sl 2 0 18 (.s n) true), [(2, some ⟨true, true, .rows 18 n (cpR n row)⟩)], 60, [decide (n = n ∧ 0 ≤ n ∧ n ≤ 100000000), flatR row, flatR Z0, pB (PreT n n 0 N row n Z0)]⟩ := by kernel_rfl
def toH : CS := fun base args rd => match args with
  | [.c (.sl i o es (.s n) _)] => match rd with
    | [(j, ⟨_, _, .rows st N row⟩)] => match Nat.beq base 2 && (Nat.beq i 1 && (Nat.beq o 0 && (Nat.beq es 18 && (Nat.beq j 1 && Nat.beq st 18)))) with
      | true => some ⟨.c (.sl 2 0 18 (.s n) true), [(2, some ⟨true, true, .rows 18 n (cpR n row)⟩)], 60, [okN n N row]⟩
      | false => none
    | _ => none
  | _ => none
set_option maxRecDepth 100000 in
theorem cTo0 : CallOK Try.prog 53 (inl (cxT fops) Try.f53 ⟨fun _ => none, lpOf [(3, LT fops)]⟩) := by
  have hb : Try.f53.body.isSome = true := by kernel_rfl
  obtain ⟨c, hc⟩ := Option.isSome_iff_exists.1 hb
  have h1 : (match Try.f53.body with | some c => onceB (loopsIn c) && (match loopAt 3 (loopsIn c) with | some _ => true | none => false) | none => false) = true := by kernel_rfl
  rw [hc] at h1
  simp only [Bool.and_eq_true] at h1
  exact inlL_of (l := []) (ls := [(3, LT fops)]) trivial mixed 8 Try.func53 (by kernel_rfl) (fun _ => none) hc h1.1 ⟨⟨_, bodyOf_at hc h1.2, okT⟩, trivial⟩
def toC (O : FOps) : CS := orS (canS toH) (inl (cxT O) Try.f53 noH)
set_option maxRecDepth 100000 in
theorem cToC : CallOK Try.prog 53 (toC fops) :=
  (CallOK.hand (H := toH) cTo0.nw fun b args rd e h hob => by
    unfold toH at h
    split at h <;> try (cases h; done)
    rename_i i o es n f
    split at h <;> try (cases h; done)
    rename_i j w o' st N row
    split at h <;> cases h
    rename_i hc
    simp only [Bool.and_eq_true, beqN] at hc
    obtain ⟨rfl, rfl, rfl, rfl, rfl, rfl⟩ := hc
    obtain ⟨rfl, h0, hm, hs⟩ := pB_iff.1 hob.head
    exact ⟨_, to_run fops f w o' N N row, AllT.cons (by simp; omega) (AllT.cons (shape_flat hs) (AllT.cons (rowK_flat _ _ _) (AllT.cons (pB_iff.2 ⟨rfl, rfl, rfl, rfl, h0, hm, hs, rfl⟩) AllT.nil)))⟩).can.or
    (inlN_of (l := []) trivial mixed 8 Try.func53 (by kernel_rfl) (fun _ => none))
set_option maxRecDepth 100000 in
theorem ma_run (O : FOps) (f o : Bool) (n N : Int) (u : SI) (row : Int → List SC) : inl (cxT O) Try.f62 ⟨fun _ => none, lpOf [(2, LM O)]⟩ 2 [.c (.sl 1 0 18 (.s n) f), .c (.int .i64 u)] [(1, ⟨true, o, .rows 18 N row⟩)] =
    some ⟨.c (.int .i64 (.s (u.val + 18 * n))), [(1, some ⟨true, false, .rows 18 n (mkR O u.val n row)⟩)], 60, [flatR row, pB (PreM n u.val 0 N row)]⟩ := by kernel_rfl
def maH (O : FOps) : CS := fun base args rd => match args with
  | [.c (.sl i o es (.s n) _), .c (.int .i64 u)] => match rd with
    | [(j, ⟨true, _, .rows st N row⟩)] => match Nat.beq base 2 && (Nat.beq i 1 && (Nat.beq o 0 && (Nat.beq es 18 && (Nat.beq j 1 && Nat.beq st 18)))) with
      | true => some ⟨.c (.int .i64 (.s (u.val + 18 * n))), [(1, some ⟨true, false, .rows 18 n (mkR O u.val n row)⟩)], 60, [okM' n u.val N row]⟩
      | false => none
    | _ => none
  | _ => none
set_option maxRecDepth 100000 in
theorem cMa0 : CallOK Try.prog 62 (inl (cxT fops) Try.f62 ⟨fun _ => none, lpOf [(2, LM fops)]⟩) := by
  have hb : Try.f62.body.isSome = true := by kernel_rfl
  obtain ⟨c, hc⟩ := Option.isSome_iff_exists.1 hb
  have h1 : (match Try.f62.body with | some c => onceB (loopsIn c) && (match loopAt 2 (loopsIn c) with | some _ => true | none => false) | none => false) = true := by kernel_rfl
  rw [hc] at h1
  simp only [Bool.and_eq_true] at h1
  exact inlL_of (l := []) (ls := [(2, LM fops)]) trivial mixed 8 Try.func62 (by kernel_rfl) (fun _ => none) hc h1.1 ⟨⟨_, bodyOf_at hc h1.2, okM⟩, trivial⟩
def maC (O : FOps) : CS := orS (canS (maH O)) (inl (cxT O) Try.f62 noH)
set_option maxRecDepth 100000 in
theorem cMaC : CallOK Try.prog 62 (maC fops) :=
  (CallOK.hand (H := maH fops) cMa0 fun b args rd e h hob => by
    unfold maH at h
    split at h <;> try (cases h; done)
    rename_i i o es n f u
    split at h <;> try (cases h; done)
    rename_i j o' st N row
    split at h <;> cases h
    rename_i hc
    simp only [Bool.and_eq_true, beqN] at hc
    obtain ⟨rfl, rfl, rfl, rfl, rfl, rfl⟩ := hc
    obtain ⟨rfl, h0, hm, hu, hu1, hs⟩ := pB_iff.1 hob.head
    exact ⟨_, ma_run fops f o' N N u row, AllT.cons (shape_flat hs) (AllT.cons (pB_iff.2 ⟨rfl, rfl, h0, hm, hu, hu1, hs⟩) AllT.nil)⟩).can.or
    (inlN_of (l := []) trivial mixed 8 Try.func62 (by kernel_rfl) (fun _ => none))
set_option maxRecDepth 100000 in
theorem he_run (O : FOps) (f w o : Bool) (n N : Int) (u : SI) (row : Int → List SC) : roS (inl (cxT O) Try.f63 ⟨fun _ => none, lpOf [(2, LH O)]⟩) 2 [.c (.sl 1 0 18 (.s n) f), .c (.int .i64 u)] [(1, ⟨w, o, .rows 18 N row⟩)] =
    some ⟨.c (.int .i64 (.s (u.val + 18 * n))), [], 60, [flatR row, pB (PreH n u.val 0 N row)]⟩ := by kernel_rfl
def heH : CS := fun base args rd => match args with
  | [.c (.sl i o es (.s n) _), .c (.int .i64 u)] => match rd with
    | [(j, ⟨_, _, .rows st N row⟩)] => match Nat.beq base 2 && (Nat.beq i 1 && (Nat.beq o 0 && (Nat.beq es 18 && (Nat.beq j 1 && Nat.beq st 18)))) with
      | true => some ⟨.c (.int .i64 (.s (u.val + 18 * n))), [], 60, [okH' n u.val N row]⟩
      | false => none
    | _ => none
  | _ => none
theorem marked_shape {u n : Int} {row : Int → List SC} (h : Marked u n row) : Shape ts row := by
  obtain ⟨X, Y, rfl⟩ := h
  exact shape_row _ _
theorem mkR_marked (u n : Int) (row : Int → List SC) : Marked u n (mkR fops u n row) := ⟨_, _, rfl⟩
set_option maxRecDepth 100000 in
theorem cHe0 : CallOK Try.prog 63 (inl (cxT fops) Try.f63 ⟨fun _ => none, lpOf [(2, LH fops)]⟩) := by
  have hb : Try.f63.body.isSome = true := by kernel_rfl
  obtain ⟨c, hc⟩ := Option.isSome_iff_exists.1 hb
  have h1 : (match Try.f63.body with | some c => onceB (loopsIn c) && (match loopAt 2 (loopsIn c) with | some _ => true | none => false) | none => false) = true := by kernel_rfl
  rw [hc] at h1
  simp only [Bool.and_eq_true] at h1
  exact inlL_of (l := []) (ls := [(2, LH fops)]) trivial mixed 8 Try.func63 (by kernel_rfl) (fun _ => none) hc h1.1 ⟨⟨_, bodyOf_at hc h1.2, okH⟩, trivial⟩
def heC (O : FOps) : CS := orS (canS heH) (inl (cxT O) Try.f63 noH)
set_option maxRecDepth 100000 in
theorem cHeC : CallOK Try.prog 63 (heC fops) :=
  (CallOK.hand (H := heH) cHe0.ro fun b args rd e h hob => by
    unfold heH at h
    split at h <;> try (cases h; done)
    rename_i i o es n f u
    split at h <;> try (cases h; done)
    rename_i j w o' st N row
    split at h <;> cases h
    rename_i hc
    simp only [Bool.and_eq_true, beqN] at hc
    obtain ⟨rfl, rfl, rfl, rfl, rfl, rfl⟩ := hc
    obtain ⟨rfl, h0, hm, hu, hu1, hs⟩ := pB_iff.1 hob.head
    exact ⟨_, he_run fops f w o' N N u row, AllT.cons (shape_flat (marked_shape hs)) (AllT.cons (pB_iff.2 ⟨rfl, rfl, h0, hm, hu, hu1, hs⟩) AllT.nil)⟩).can.or
    (inlN_of (l := []) trivial mixed 8 Try.func63 (by kernel_rfl) (fun _ => none))
set_option maxRecDepth 100000 in
theorem eq_run (O : FOps) (f w o f' w' o' : Bool) (n N m M : Int) (row row' : Int → List SC) : roS (inl (cxQ O) Try.f56 ⟨fun _ => none, lpOf [(4, LE O)]⟩) 3 [.c (.sl 2 0 18 (.s n) f), .c (.sl 1 0 18 (.s m) f')] [(1, ⟨w', o', .rows 18 M row'⟩), (2, ⟨w, o, .rows 18 N row⟩)] =
    some ⟨.c (.bool (.s (eqR O n m row row'))), [], 60, gdB (!decide (n = m)) [flatR row', flatR row, pB (PreQ n m 0 N row M row')]⟩ := by kernel_rfl
def eqH (O : FOps) : CS := fun base args rd => match args with
  | [.c (.sl i o es (.s n) _), .c (.sl i' o' es' (.s m) _)] => match rd with
    | [(j', ⟨_, _, .rows st' M row'⟩), (j, ⟨_, _, .rows st N row⟩)] => match Nat.beq base 3 && (Nat.beq i 2 && (Nat.beq o 0 && (Nat.beq es 18 && (Nat.beq j 2 && (Nat.beq st 18 && (Nat.beq i' 1 && (Nat.beq o' 0 && (Nat.beq es' 18 && (Nat.beq j' 1 && Nat.beq st' 18))))))))) with
      | true => some ⟨.c (.bool (.s (eqR O n m row row'))), [], 60, [okE' n N row m M row']⟩
      | false => none
    | _ => none
  | _ => none
set_option maxRecDepth 100000 in
theorem cEq0 : CallOK Try.prog 56 (inl (cxQ fops) Try.f56 ⟨fun _ => none, lpOf [(4, LE fops)]⟩) := by
  have hb : Try.f56.body.isSome = true := by kernel_rfl
  obtain ⟨c, hc⟩ := Option.isSome_iff_exists.1 hb
  have h1 : (match Try.f56.body with | some c => onceB (loopsIn c) && (match loopAt 4 (loopsIn c) with | some _ => true | none => false) | none => false) = true := by kernel_rfl
  rw [hc] at h1
  simp only [Bool.and_eq_true] at h1
  exact inlL_of (l := LQ fops) (ls := [(4, LE fops)]) okLQ mixed 8 Try.func56 (by kernel_rfl) (fun _ => none) hc h1.1 ⟨⟨_, bodyOf_at hc h1.2, okE⟩, trivial⟩
def eqC (O : FOps) : CS := orS (canS (eqH O)) (inl (cxQ O) Try.f56 noH)
set_option maxRecDepth 100000 in
theorem cEqC : CallOK Try.prog 56 (eqC fops) :=
  (CallOK.hand (H := eqH fops) cEq0.ro fun b args rd e h hob => by
    unfold eqH at h
    split at h <;> try (cases h; done)
    rename_i i o es n f i' o' es' m f'
    split at h <;> try (cases h; done)
    rename_i j' w' p' st' M row' j w p st N row
    split at h <;> cases h
    rename_i hc
    simp only [Bool.and_eq_true, beqN] at hc
    obtain ⟨rfl, rfl, rfl, rfl, rfl, rfl, rfl, rfl, rfl, rfl, rfl⟩ := hc
    refine ⟨_, eq_run fops f w p f' w' p' n N m M row row', gdB_ok fun hg => ?_⟩
    have hnm : decide (n = m) = true := by simpa using hg
    have ho := hob.head
    unfold okE' at ho
    rw [hnm] at ho
    obtain ⟨e1, e2, h0, hm, hs, hs'⟩ := pB_iff.1 (show pB _ = true from ho)
    exact AllT.cons (shape_flat hs') (AllT.cons (shape_flat hs) (AllT.cons (pB_iff.2 ⟨(of_decide_eq_true hnm).symm, rfl, e1, e2, h0, hm, hs, hs'⟩) AllT.nil))).can.or
    (inlN_of (l := LQ fops) okLQ mixed 8 Try.func56 (by kernel_rfl) (fun _ => none))
end
end Go.Proofs.Ytngdmcbjponlhaa.SlWood
end

/- Facts of sums and products of floats. Nothing is assumed. -/
section
namespace Go.Proofs.Ytngdmcbjponlhaa
open Go

theorem bin_cn {op : BinOp} {k : FloatKind} {x y : Nat} : Cn k (fops.bin op k x y) := by
  show Cn k ((floatBits op k x y).getD (qnan k))
  cases h : floatBits op k x y with
  | some r => exact ⟨r, floatBits_lt h, can_of_not (floatBits_not_nan h)⟩
  | none => exact ⟨qnan k, by cases k <;> decide +kernel, by simp [can, qnan_nan]⟩
theorem word_false (f : Ieee.Format) (r : Nat) : f.word false r = r := rfl
/-- A word's own number is written as that word. -/
theorem nearest_units (k : FloatKind) (s : Bool) {r : Nat} (h : r < k.format.infRung) : k.format.nearest s (units k.format.binade r) k.format.leastPlace = k.format.word s r := by
  have hb : 0 < k.format.binade := binade_pos k
  have hbd : k.format.binade = 2 ^ k.format.fractionBits := rfl
  unfold Ieee.Format.nearest
  by_cases h0 : r = 0
  · subst h0
    have : units k.format.binade 0 = 0 := by unfold units; rw [if_pos hb]
    rw [this, if_pos rfl]
  · have hpos : 0 < units k.format.binade r := by
      have := units_lt (b := k.format.binade) hb (Nat.pos_of_ne_zero h0)
      have u0 : units k.format.binade 0 = 0 := by unfold units; rw [if_pos hb]
      rw [u0] at this; exact this
    rw [if_neg (by omega)]
    by_cases h1 : r < k.format.binade
    · have hu : units k.format.binade r = r := by unfold units; rw [if_pos h1]
      rw [hu]
      have hl : r.log2 < k.format.fractionBits := by rw [Nat.log2_lt h0]; exact h1
      have hm : max (k.format.leastPlace + (r.log2 : Int) - (k.format.fractionBits : Int)) k.format.leastPlace = k.format.leastPlace := by omega
      simp only [hm, Int.sub_self, Int.toNat_zero, Nat.zero_mul, Nat.zero_add, Nat.shiftLeft_zero, cut_zero]
      rw [Nat.min_eq_left (Nat.le_of_lt h)]
    · have hq : 1 ≤ r / k.format.binade := (Nat.one_le_div_iff hb).2 (by omega)
      have hu : units k.format.binade r = (k.format.binade + r % k.format.binade) * 2 ^ (r / k.format.binade - 1) := by unfold units; rw [if_neg h1]
      have hmod : r % k.format.binade < k.format.binade := Nat.mod_lt _ hb
      have hlog : (units k.format.binade r).log2 = k.format.fractionBits + (r / k.format.binade - 1) := by
        rw [Nat.log2_eq_iff (by omega), hu]
        constructor
        · rw [Nat.pow_add, ← hbd]
          exact Nat.mul_le_mul_right _ (Nat.le_add_right _ _)
        · rw [show k.format.fractionBits + (r / k.format.binade - 1) + 1 = (k.format.fractionBits + 1) + (r / k.format.binade - 1) by omega, Nat.pow_add, Nat.pow_succ, ← hbd]
          exact Nat.mul_lt_mul_of_pos_right (by omega) (Nat.two_pow_pos _)
      rw [hlog]
      have hm : max (k.format.leastPlace + ((k.format.fractionBits + (r / k.format.binade - 1) : Nat) : Int) - (k.format.fractionBits : Int)) k.format.leastPlace = k.format.leastPlace + ((r / k.format.binade - 1 : Nat) : Int) := by omega
      simp only [hm]
      have e1 : (k.format.leastPlace - (k.format.leastPlace + ((r / k.format.binade - 1 : Nat) : Int))).toNat = 0 := by omega
      have e2 : (k.format.leastPlace + ((r / k.format.binade - 1 : Nat) : Int) - k.format.leastPlace).toNat = r / k.format.binade - 1 := by omega
      rw [e1, e2, Nat.shiftLeft_zero]
      have hcut : Ieee.Toward.even.cut s (units k.format.binade r) (r / k.format.binade - 1) = k.format.binade + r % k.format.binade := by
        unfold Ieee.Toward.cut
        rw [hlog, Nat.min_eq_left (by omega), Nat.shiftLeft_eq, Nat.one_mul, hu]
        dsimp only
        rw [Nat.mul_div_cancel _ (Nat.two_pow_pos _), Nat.mul_mod_left]
        have : 0 < 2 ^ (r / k.format.binade - 1) := Nat.two_pow_pos _
        have h2 : (2 ^ (r / k.format.binade - 1) == 2 * 0) = false := by simp
        simp [h2]
      rw [hcut]
      have hr : (r / k.format.binade - 1) * k.format.binade + (k.format.binade + r % k.format.binade) = r := by
        have := Nat.div_add_mod r k.format.binade
        have e3 : (r / k.format.binade - 1) * k.format.binade + k.format.binade = r / k.format.binade * k.format.binade := by
          rw [← Nat.succ_mul, Nat.succ_eq_add_one, Nat.sub_add_cancel hq]
        rw [Nat.mul_comm] at this
        omega
      rw [hr, Nat.min_eq_left (Nat.le_of_lt h)]
theorem even_le {s : Bool} {n d t : Nat} (h : n ≤ t * 2 ^ d) : Ieee.Toward.even.cut s n d ≤ t := by
  unfold Ieee.Toward.cut
  dsimp only
  rw [Nat.shiftLeft_eq, Nat.one_mul]
  have hp : 0 < 2 ^ min d (n.log2 + 2) := Nat.two_pow_pos _
  generalize hg : 2 ^ min d (n.log2 + 2) = g at hp ⊢
  have hdm := Nat.div_add_mod n g
  have hrest : n % g < g := Nat.mod_lt _ hp
  -- where all digits are dropped the number is less than half a unit
  by_cases hd : d ≤ n.log2 + 2
  · have hgd : g = 2 ^ d := by rw [← hg, Nat.min_eq_left hd]
    rw [← hgd] at h
    have hlow : n / g ≤ t := by
      have := Nat.div_le_div_right (c := g) h
      rwa [Nat.mul_div_cancel _ hp] at this
    rcases Nat.lt_or_eq_of_le hlow with h1 | h1
    · have : ∀ b : Bool, b.toNat ≤ 1 := fun b => by cases b <;> decide
      have := this (decide (g < 2 * (n % g)) || (g == 2 * (n % g) && n / g % 2 == 1))
      omega
    · have h2 : n % g = 0 := by
        rw [h1, Nat.mul_comm] at hdm
        omega
      have h3 : (g == 2 * 0) = false := by
        cases hb : (g == 2 * 0)
        · rfl
        · have := of_decide_eq_true (p := g = 2 * 0) (by simpa using hb); omega
      rw [h2, h3, h1]
      simp
  · have hgd : g = 2 ^ (n.log2 + 2) := by rw [← hg, Nat.min_eq_right (by omega)]
    have hn : n < 2 ^ (n.log2 + 1) := Nat.lt_log2_self
    have h2 : 2 * n < g := by rw [hgd, Nat.pow_succ]; omega
    have hlt : n < g := by omega
    rw [Nat.div_eq_of_lt hlt, Nat.mod_eq_of_lt hlt]
    have h3 : decide (g < 2 * n) = false := by simp; omega
    have h4 : (g == 2 * n) = false := by simp; omega
    rw [h3, h4]
    simp
/-- No number that is at most a word's is written above it. -/
theorem nearest_le (k : FloatKind) (s : Bool) {m : Nat} {e : Int} {r : Nat} (h : m * 2 ^ (e - k.format.leastPlace).toNat ≤ units k.format.binade r * 2 ^ (k.format.leastPlace - e).toNat) : ∃ r', r' ≤ r ∧ r' ≤ k.format.infRung ∧ k.format.nearest s m e = k.format.word s r' := by
  have hb : 0 < k.format.binade := binade_pos k
  have hbd : k.format.binade = 2 ^ k.format.fractionBits := rfl
  unfold Ieee.Format.nearest
  by_cases h0 : m = 0
  · rw [if_pos h0]; exact ⟨0, Nat.zero_le _, Nat.zero_le _, rfl⟩
  rw [if_neg h0]
  refine ⟨_, ?_, Nat.min_le_right _ _, rfl⟩
  refine Nat.le_trans (Nat.min_le_left _ _) ?_
  -- the number in units, and its binade
  generalize hE : (e - k.format.leastPlace).toNat = E at h
  generalize hF : (k.format.leastPlace - e).toNat = F at h
  have hEe : e = k.format.leastPlace + (E : Int) - (F : Int) := by omega
  have hEF : E = 0 ∨ F = 0 := by omega
  have hml : 2 ^ m.log2 ≤ m := Nat.log2_self_le h0
  have hmu : m < 2 ^ (m.log2 + 1) := Nat.lt_log2_self
  by_cases hn : E + m.log2 ≤ k.format.fractionBits + F
  · -- the least binades: a step is a unit
    have hm : max (e + (m.log2 : Int) - (k.format.fractionBits : Int)) k.format.leastPlace = k.format.leastPlace := by omega
    simp only [hm]
    rw [hE, hF, Int.sub_self, Int.toNat_zero, Nat.zero_mul, Nat.zero_add, Nat.shiftLeft_eq]
    have hu : m * 2 ^ E ≤ (2 * k.format.binade) * 2 ^ F := by
      calc m * 2 ^ E ≤ 2 ^ (m.log2 + 1) * 2 ^ E := Nat.mul_le_mul_right _ (Nat.le_of_lt hmu)
        _ = 2 ^ (E + m.log2 + 1) := by rw [← Nat.pow_add]; congr 1; omega
        _ ≤ 2 ^ (k.format.fractionBits + 1 + F) := Nat.pow_le_pow_right (by omega) (by omega)
        _ = (2 * k.format.binade) * 2 ^ F := by rw [Nat.pow_add, Nat.pow_succ, hbd, Nat.mul_comm 2]
    by_cases hr2 : r < 2 * k.format.binade
    · have : units k.format.binade r = r := by
        unfold units
        split
        · rfl
        · rename_i h1
          have hq : r / k.format.binade = 1 := by
            refine Nat.le_antisymm ?_ ((Nat.one_le_div_iff hb).2 (by omega))
            exact Nat.le_of_lt_succ (Nat.div_lt_of_lt_mul (by omega))
          have := Nat.div_add_mod r k.format.binade
          rw [hq] at this ⊢
          simp; omega
      rw [this] at h; exact even_le h
    · exact Nat.le_trans (even_le hu) (by omega)
  · -- a number with all its digits
    have hm : max (e + (m.log2 : Int) - (k.format.fractionBits : Int)) k.format.leastPlace = k.format.leastPlace + ((E + m.log2 - k.format.fractionBits - F : Nat) : Int) := by omega
    simp only [hm]
    generalize hD : E + m.log2 - k.format.fractionBits - F = D
    have e1 : (k.format.leastPlace + (D : Int) - k.format.leastPlace).toNat = D := by omega
    rw [e1]
    -- what is kept is below t where the number is
    have kept : ∀ t, m * 2 ^ E ≤ t * 2 ^ D * 2 ^ F → Ieee.Toward.even.cut s (m <<< (e - (k.format.leastPlace + (D : Int))).toNat) (k.format.leastPlace + (D : Int) - e).toNat ≤ t := by
      intro t ht
      refine even_le ?_
      rw [Nat.shiftLeft_eq]
      rw [Nat.mul_assoc, ← Nat.pow_add] at ht
      by_cases hED : D + F ≤ E
      · have d1 : (e - (k.format.leastPlace + (D : Int))).toNat = E - (D + F) := by omega
        have d2 : (k.format.leastPlace + (D : Int) - e).toNat = 0 := by omega
        rw [d1, d2, Nat.pow_zero, Nat.mul_one]
        have : m * 2 ^ E = m * 2 ^ (E - (D + F)) * 2 ^ (D + F) := by rw [Nat.mul_assoc, ← Nat.pow_add, Nat.sub_add_cancel hED]
        rw [this] at ht
        exact Nat.le_of_mul_le_mul_right ht (Nat.two_pow_pos _)
      · have d1 : (e - (k.format.leastPlace + (D : Int))).toNat = 0 := by omega
        have d2 : (k.format.leastPlace + (D : Int) - e).toNat = D + F - E := by omega
        rw [d1, d2, Nat.pow_zero, Nat.mul_one]
        have : t * 2 ^ (D + F) = t * 2 ^ (D + F - E) * 2 ^ E := by rw [Nat.mul_assoc, ← Nat.pow_add, Nat.sub_add_cancel (by omega)]
        rw [this] at ht
        exact Nat.le_of_mul_le_mul_right ht (Nat.two_pow_pos _)
    have hlow : k.format.binade * 2 ^ D * 2 ^ F ≤ m * 2 ^ E := by
      calc k.format.binade * 2 ^ D * 2 ^ F = 2 ^ (E + m.log2) := by rw [hbd, ← Nat.pow_add, ← Nat.pow_add]; congr 1; omega
        _ = 2 ^ m.log2 * 2 ^ E := by rw [← Nat.pow_add]; congr 1; omega
        _ ≤ m * 2 ^ E := Nat.mul_le_mul_right _ hml
    have hup : m * 2 ^ E ≤ (2 * k.format.binade) * 2 ^ D * 2 ^ F := by
      calc m * 2 ^ E ≤ 2 ^ (m.log2 + 1) * 2 ^ E := Nat.mul_le_mul_right _ (Nat.le_of_lt hmu)
        _ = (2 * k.format.binade) * 2 ^ D * 2 ^ F := by
          rw [hbd, ← Nat.pow_add, ← Nat.pow_succ', ← Nat.pow_add, ← Nat.pow_add]; congr 1; omega
    by_cases hr2 : D * k.format.binade + 2 * k.format.binade ≤ r
    · exact Nat.le_trans (Nat.add_le_add_left (kept _ hup) _) hr2
    · -- the word is of that binade
      have hlow' : k.format.binade * 2 ^ D ≤ units k.format.binade r := Nat.le_of_mul_le_mul_right (Nat.le_trans hlow h) (Nat.two_pow_pos F)
      have hge : D * k.format.binade + k.format.binade ≤ r := by
        rcases Nat.lt_or_ge r (D * k.format.binade + k.format.binade) with hlt | hge
        · exfalso
          have h1 := units_lt (b := k.format.binade) hb hlt
          have h2 : units k.format.binade (D * k.format.binade + k.format.binade) = k.format.binade * 2 ^ D := by
            unfold units
            rw [if_neg (by omega)]
            have h3 : D * k.format.binade + k.format.binade = (D + 1) * k.format.binade := by rw [Nat.succ_mul]
            rw [h3, Nat.mul_mod_left, Nat.mul_div_cancel _ hb]
            simp
          rw [h2] at h1
          omega
        · exact hge
      have hq : r / k.format.binade = D + 1 := by
        refine Nat.le_antisymm (Nat.le_of_lt_succ (Nat.div_lt_of_lt_mul ?_)) ((Nat.le_div_iff_mul_le hb).2 ?_)
        · rw [Nat.mul_comm, show (D + 1).succ = D + 2 from rfl, Nat.add_mul]; omega
        · rw [Nat.add_mul]; omega
      have hu : units k.format.binade r = (r - D * k.format.binade) * 2 ^ D := by
        unfold units
        rw [if_neg (by omega), hq]
        have := Nat.div_add_mod r k.format.binade
        rw [hq, Nat.mul_comm, Nat.add_mul] at this
        congr 1
        omega
      rw [hu] at h
      have := kept _ h
      omega

/-! ### zero adds nothing -/
theorem read_zero : FloatKind.f32.format.read 0 = .number false 0 FloatKind.f32.format.leastPlace := by decide +kernel
theorem neg_small {x : Nat} (h : x < 2147483648) : negB .f32 x = false := by
  unfold negB
  rw [show FloatKind.f32.format.signWeight = 2147483648 by decide +kernel, Nat.div_eq_of_lt h]; rfl
theorem rung_small {x : Nat} (h : x < 2147483648) : rung .f32 x = x := by
  unfold rung
  rw [show FloatKind.f32.format.signWeight = 2147483648 by decide +kernel, Nat.mod_eq_of_lt h]
theorem add_def (x y : Nat) : fops.bin .add .f32 x y = (((FloatKind.f32.format.read x).sum (FloatKind.f32.format.read y)).map FloatKind.f32.format.write).getD (qnan .f32) := rfl
theorem nan_read {x : Nat} (h : nanb .f32 x = true) : ∃ s t, FloatKind.f32.format.read x = .nan s t := by
  unfold nanb FloatKind.decode at h
  cases hd : FloatKind.f32.format.read x <;> rw [hd] at h <;> simp [Ieee.Datum.isNaN] at h
  exact ⟨_, _, rfl⟩
theorem add_zero {x : Nat} (hx : Cn .f32 x) (h : x < 2147483648) : fops.bin .add .f32 x 0 = x ∧ fops.bin .add .f32 0 x = x := by
  rw [add_def, add_def, read_zero]
  cases hn : nanb .f32 x with
  | true =>
    obtain ⟨s, t, hd⟩ := nan_read hn
    have hq : x = qnan .f32 := by have := hx.nan; rw [hn] at this; exact beqN.1 this.symm
    rw [hd]
    exact ⟨hq.symm, hq.symm⟩
  | false =>
    rcases read_cases .f32 x hn with ⟨m, e, h1, h2, h3, h4⟩ | ⟨h1, h4⟩
    · rw [neg_small h] at h1
      rw [rung_small h] at h3 h4
      rw [h1]
      have b1 : min e FloatKind.f32.format.leastPlace = FloatKind.f32.format.leastPlace := by omega
      have b2 : min FloatKind.f32.format.leastPlace e = FloatKind.f32.format.leastPlace := by omega
      have s1 : Ieee.signed false m (e - FloatKind.f32.format.leastPlace).toNat = ((units FloatKind.f32.format.binade x : Nat) : Int) := by
        unfold Ieee.signed
        rw [if_neg (by simp), Nat.shiftLeft_eq, h3]
      have s2 : ∀ n, Ieee.signed false 0 n = 0 := fun n => by simp [Ieee.signed]
      simp only [Ieee.Datum.sum, b1, b2, s1, s2, Int.add_zero, Int.zero_add, Option.map_some, Option.getD_some, Ieee.Format.write, Int.natAbs_natCast]
      have hneg : ∀ n : Nat, (if (n : Int) = 0 then (false && false) else decide ((n : Int) < 0)) = false := fun n => by split <;> simp
      rw [hneg, nearest_units .f32 false h4, word_false]
      exact ⟨rfl, rfl⟩
    · rw [neg_small h] at h1
      rw [rung_small h] at h4
      rw [h1]
      simp only [Ieee.Datum.sum, Option.map_some, Option.getD_some, Ieee.Format.write, word_false, h4]
      exact ⟨trivial, trivial⟩
/-- A product of two that are not negative is not negative. -/
theorem mul_pos {x y : Nat} (hx : x < 2147483648) (hy : y < 2147483648) : fops.bin .mul .f32 x y < 2147483648 := by
  have hdef : fops.bin .mul .f32 x y = (((FloatKind.f32.format.read x).product (FloatKind.f32.format.read y)).map FloatKind.f32.format.write).getD (qnan .f32) := rfl
  have hi : FloatKind.f32.format.infRung = 2139095040 := by decide +kernel
  have sgn : ∀ {z : Nat}, z < 2147483648 → (FloatKind.f32.format.read z).neg = false := by
    intro z hz
    cases hn : nanb .f32 z with
    | true =>
      unfold Ieee.Format.read
      have : (z / FloatKind.f32.format.signWeight % 2 == 1) = false := neg_small hz
      dsimp only
      rw [this]
      split
      · rfl
      · split
        · rfl
        · split <;> rfl
    | false =>
      rcases read_cases .f32 z hn with ⟨m, e, h1, _⟩ | ⟨h1, _⟩ <;> rw [h1] <;> exact neg_small hz
  have wr : ∀ d : Ieee.Datum, d.neg = false → d.isNaN = false → FloatKind.f32.format.write d < 2147483648 := by
    intro d h1 h2
    cases d with
    | nan s t => cases h2
    | infinity s => cases h1; rw [Ieee.Format.write, word_false, hi]; decide
    | number s m e =>
      cases h1
      simp only [Ieee.Format.write, Ieee.Format.nearest]
      split
      · rw [word_false]; decide
      · rw [word_false]
        exact Nat.lt_of_le_of_lt (Nat.min_le_right _ _) (by rw [hi]; decide)
  rw [hdef]
  cases hp : (FloatKind.f32.format.read x).product (FloatKind.f32.format.read y) with
  | none => decide +kernel
  | some d =>
    refine wr d ?_ (product_not_nan hp)
    have g1 := sgn hx
    have g2 := sgn hy
    cases h1 : FloatKind.f32.format.read x <;> cases h2 : FloatKind.f32.format.read y <;> rw [h1] at hp g1 <;> rw [h2] at hp g2 <;> simp only [Ieee.Datum.neg] at g1 g2 <;> subst g1 <;> subst g2 <;> simp only [Ieee.Datum.product] at hp <;> first
      | (cases hp; done)
      | (cases hp; rfl)
      | (split at hp <;> cases hp; rfl)
end Go.Proofs.Ytngdmcbjponlhaa
end

/- Sums, differences and products of floats: their sizes. Nothing is assumed. -/
section
namespace Go.Proofs.Ytngdmcbjponlhaa
open Go

/-- The number of a word in units of the least place, with its sign. -/
def val (x : Nat) : Int := sgn (negB .f32 x) (units FloatKind.f32.format.binade (rung .f32 x))
/-- A word of a number. -/
def Fin (x : Nat) : Prop := nanb .f32 x = false ∧ rung .f32 x < 2139095040
theorem inf32 : FloatKind.f32.format.infRung = 2139095040 := by decide +kernel
theorem sw32 : FloatKind.f32.format.signWeight = 2147483648 := by decide +kernel
theorem fin_read {x : Nat} (h : Fin x) : ∃ m e, FloatKind.f32.format.read x = .number (negB .f32 x) m e ∧ FloatKind.f32.format.leastPlace ≤ e ∧ m * 2 ^ (e - FloatKind.f32.format.leastPlace).toNat = units FloatKind.f32.format.binade (rung .f32 x) := by
  rcases read_cases .f32 x h.1 with ⟨m, e, h1, h2, h3, _⟩ | ⟨_, h4⟩
  · exact ⟨m, e, h1, h2, h3⟩
  · have := h.2; rw [h4, inf32] at this; omega
theorem fin_small {x : Nat} (h : x < 2139095040) : Fin x := by
  refine ⟨?_, by rw [rung_small (by omega)]; exact h⟩
  unfold nanb FloatKind.decode
  rw [read_nan, sw32, inf32]
  simp; omega
theorem val_small {x : Nat} (h : x < 2147483648) : val x = (units FloatKind.f32.format.binade x : Nat) := by
  unfold val sgn
  rw [neg_small h, rung_small h]; rfl
theorem signed_val {x : Nat} {m : Nat} {e b : Int} (s : Bool) (h1 : FloatKind.f32.format.leastPlace ≤ b) (h2 : b ≤ e) (h3 : m * 2 ^ (e - FloatKind.f32.format.leastPlace).toNat = units FloatKind.f32.format.binade (rung .f32 x)) :
    Ieee.signed s m (e - b).toNat * (2 ^ (b - FloatKind.f32.format.leastPlace).toNat : Nat) = sgn s (units FloatKind.f32.format.binade (rung .f32 x)) := by
  rw [signed_mul, ← h3]
  have : (e - b).toNat + (b - FloatKind.f32.format.leastPlace).toNat = (e - FloatKind.f32.format.leastPlace).toNat := by omega
  rw [this]
  rfl
theorem sgn_not (s : Bool) (n : Nat) : sgn (!s) n = - sgn s n := by cases s <;> simp [sgn]
/-- A difference of two numbers, and what it may not pass. -/
theorem sub_le {x y r : Nat} (hx : Fin x) (hy : Fin y) (h : val y ≤ val x) (hr : val x - val y ≤ (units FloatKind.f32.format.binade r : Nat)) (hs : negB .f32 x = false ∨ negB .f32 y = true ∨ val y < val x) :
    ∃ r', r' ≤ r ∧ r' ≤ 2139095040 ∧ (fops.bin .sub .f32 x y = r' ∨ fops.bin .sub .f32 x y = 2147483648 ∧ val x = val y) := by
  obtain ⟨m, i, h1, h2, h3⟩ := fin_read hx
  obtain ⟨n, j, g1, g2, g3⟩ := fin_read hy
  have hdef : fops.bin .sub .f32 x y = (((FloatKind.f32.format.read x).sum (FloatKind.f32.format.read y).opposite).map FloatKind.f32.format.write).getD (qnan .f32) := rfl
  rw [hdef, h1, g1]
  simp only [Ieee.Datum.opposite, Ieee.Datum.sum, Option.map_some, Option.getD_some, Ieee.Format.write]
  have e1 := signed_val (x := x) (b := min i j) (negB .f32 x) (by omega) (by omega) h3
  have e2 := signed_val (x := y) (b := min i j) (!negB .f32 y) (by omega) (by omega) g3
  rw [sgn_not] at e2
  generalize hT : Ieee.signed (negB .f32 x) m (i - min i j).toNat + Ieee.signed (!negB .f32 y) n (j - min i j).toNat = T
  have hTv : T * (2 ^ (min i j - FloatKind.f32.format.leastPlace).toNat : Nat) = val x - val y := by
    rw [← hT, Int.add_mul, e1, e2]; unfold val; omega
  have hp : (0 : Int) < ((2 ^ (min i j - FloatKind.f32.format.leastPlace).toNat : Nat) : Int) := by exact_mod_cast Nat.two_pow_pos _
  have hT0 : 0 ≤ T := by
    rcases Int.lt_or_le T 0 with h' | h'
    · have := Int.mul_neg_of_neg_of_pos h' hp
      rw [hTv] at this; omega
    · exact h'
  have hle : T.natAbs * 2 ^ (min i j - FloatKind.f32.format.leastPlace).toNat ≤ units FloatKind.f32.format.binade r * 2 ^ (FloatKind.f32.format.leastPlace - min i j).toNat := by
    have z : (FloatKind.f32.format.leastPlace - min i j).toNat = 0 := by omega
    rw [z, Nat.pow_zero, Nat.mul_one]
    have : ((T.natAbs * 2 ^ (min i j - FloatKind.f32.format.leastPlace).toNat : Nat) : Int) ≤ (units FloatKind.f32.format.binade r : Nat) := by
      rw [Int.natCast_mul, Int.natAbs_of_nonneg hT0, hTv]; exact hr
    exact_mod_cast this
  obtain ⟨r', k1, k2, k3⟩ := nearest_le .f32 (if T = 0 then negB .f32 x && !negB .f32 y else decide (T < 0)) hle
  rw [inf32] at k2
  refine ⟨r', k1, k2, ?_⟩
  rw [k3]
  by_cases ht : T = 0
  · rw [if_pos ht]
    have hv : val x = val y := by rw [ht, Int.zero_mul] at hTv; omega
    have : (negB .f32 x && !negB .f32 y) = false := by
      rcases hs with h' | h' | h'
      · rw [h']; rfl
      · rw [h']; simp
      · omega
    rw [this]; exact .inl rfl
  · rw [if_neg ht]
    have : decide (T < 0) = false := by simp; exact hT0
    rw [this]; exact .inl rfl
/-- A product of two that are not negative, and what it may not pass. -/
theorem mul_le {x y r : Nat} (hx : x < 2139095040) (hy : y < 2139095040) (h : units FloatKind.f32.format.binade x * units FloatKind.f32.format.binade y ≤ units FloatKind.f32.format.binade r * 2 ^ 149) :
    fops.bin .mul .f32 x y ≤ r ∧ fops.bin .mul .f32 x y ≤ 2139095040 := by
  obtain ⟨m, i, h1, h2, h3⟩ := fin_read (fin_small hx)
  obtain ⟨n, j, g1, g2, g3⟩ := fin_read (fin_small hy)
  rw [neg_small (by omega)] at h1 g1
  rw [rung_small (by omega)] at h3 g3
  have hdef : fops.bin .mul .f32 x y = (((FloatKind.f32.format.read x).product (FloatKind.f32.format.read y)).map FloatKind.f32.format.write).getD (qnan .f32) := rfl
  rw [hdef, h1, g1]
  simp only [Ieee.Datum.product, Option.map_some, Option.getD_some, Ieee.Format.write, Bool.false_bne, bne_self_eq_false]
  have lp : FloatKind.f32.format.leastPlace = -149 := by decide +kernel
  have key : m * n * 2 ^ (i + j - FloatKind.f32.format.leastPlace).toNat ≤ units FloatKind.f32.format.binade r * 2 ^ (FloatKind.f32.format.leastPlace - (i + j)).toNat := by
    rw [← h3, ← g3] at h
    have e1 : m * 2 ^ (i - FloatKind.f32.format.leastPlace).toNat * (n * 2 ^ (j - FloatKind.f32.format.leastPlace).toNat) = m * n * 2 ^ ((i - FloatKind.f32.format.leastPlace).toNat + (j - FloatKind.f32.format.leastPlace).toNat) := by
      rw [Nat.pow_add]; simp only [Nat.mul_comm, Nat.mul_left_comm, Nat.mul_assoc]
    rw [e1] at h
    rw [lp] at h2 g2 h ⊢
    by_cases hij : -149 ≤ i + j
    · have z : (-149 - (i + j)).toNat = 0 := by omega
      rw [z, Nat.pow_zero, Nat.mul_one]
      have e2 : (i - -149).toNat + (j - -149).toNat = (i + j - -149).toNat + 149 := by omega
      rw [e2, Nat.pow_add, ← Nat.mul_assoc] at h
      exact Nat.le_of_mul_le_mul_right h (Nat.two_pow_pos 149)
    · have z : (i + j - -149).toNat = 0 := by omega
      rw [z, Nat.pow_zero, Nat.mul_one]
      have e2 : 149 = (-149 - (i + j)).toNat + ((i - -149).toNat + (j - -149).toNat) := by omega
      have h' : m * n * 2 ^ ((i - -149).toNat + (j - -149).toNat) ≤ units FloatKind.f32.format.binade r * 2 ^ (-149 - (i + j)).toNat * 2 ^ ((i - -149).toNat + (j - -149).toNat) := by
        rw [Nat.mul_assoc (units FloatKind.f32.format.binade r), ← Nat.pow_add, ← e2]; exact h
      exact Nat.le_of_mul_le_mul_right h' (Nat.two_pow_pos _)
  obtain ⟨r', k1, k2, k3⟩ := nearest_le .f32 (false ^^ false) key
  rw [inf32] at k2
  first
    | (rw [k3]; exact ⟨k1, k2⟩)
    | (have k3' : FloatKind.f32.format.nearest false (m * n) (i + j) = r' := k3
       rw [k3']; exact ⟨k1, k2⟩)
theorem less_eq {x y : Nat} (hx : x ≤ 2139095040) (hy : y ≤ 2139095040) : (bif fops.cmp .lss .f32 x y then x else y) = (bif fops.cmp .lss .f32 y x then y else x) := by
  have nn : ∀ {z : Nat}, z ≤ 2139095040 → nanb .f32 z = false := by
    intro z hz
    unfold nanb FloatKind.decode
    rw [read_nan, sw32, inf32]
    simp; omega
  have kk : ∀ {z : Nat}, z ≤ 2139095040 → key .f32 z = z := by
    intro z hz
    unfold key
    rw [neg_small (by omega), rung_small (by omega)]; rfl
  rw [cmp_lss, cmp_lss, nn hx, nn hy, kk hx, kk hy]
  rcases Nat.lt_trichotomy x y with h | rfl | h
  · have a1 : (x : Int) < y := by omega
    have a2 : ¬ (y : Int) < x := by omega
    simp [a1, a2]
  · simp
  · have a1 : (y : Int) < x := by omega
    have a2 : ¬ (x : Int) < y := by omega
    simp [a1, a2]
theorem product_comm (a b : Ieee.Datum) : a.product b = b.product a := by
  cases a <;> cases b <;> simp only [Ieee.Datum.product]
  · rename_i s m i t n j
    rw [Bool.xor_comm s t, Nat.mul_comm m n, Int.add_comm i j]
  · rename_i s t
    rw [Bool.xor_comm s t]
theorem mul_comm_f (k : FloatKind) (x y : Nat) : fops.bin .mul k x y = fops.bin .mul k y x := by
  show (((k.format.read x).product (k.format.read y)).map k.format.write).getD (qnan k) = (((k.format.read y).product (k.format.read x)).map k.format.write).getD (qnan k)
  rw [product_comm]
/-- A sum of two that are not negative is not negative. -/
theorem add_pos {x y : Nat} (hx : x < 2139095040) (hy : y ≤ 2139095040) : fops.bin .add .f32 x y ≤ 2139095040 := by
  have hdef : fops.bin .add .f32 x y = (((FloatKind.f32.format.read x).sum (FloatKind.f32.format.read y)).map FloatKind.f32.format.write).getD (qnan .f32) := rfl
  obtain ⟨m, i, h1, h2, h3⟩ := fin_read (fin_small hx)
  rw [neg_small (by omega)] at h1
  rcases Nat.lt_or_eq_of_le hy with hy' | hy'
  · obtain ⟨n, j, g1, g2, g3⟩ := fin_read (fin_small hy')
    rw [neg_small (by omega)] at g1
    rw [hdef, h1, g1]
    simp only [Ieee.Datum.sum, Option.map_some, Option.getD_some, Ieee.Format.write]
    have s1 : ∀ (a b : Nat), Ieee.signed false a b = ((a <<< b : Nat) : Int) := fun a b => by simp [Ieee.signed]
    rw [s1, s1]
    generalize m <<< (i - min i j).toNat = a
    generalize n <<< (j - min i j).toNat = b
    have hneg : (if (a : Int) + (b : Int) = 0 then (false && false) else decide ((a : Int) + (b : Int) < 0)) = false := by
      split
      · rfl
      · simp; omega
    rw [hneg]
    unfold Ieee.Format.nearest
    split
    · rw [word_false]; decide
    · rw [word_false, inf32]
      exact Nat.min_le_right _ _
  · subst hy'
    have hi : FloatKind.f32.format.read 2139095040 = .infinity false := by decide +kernel
    rw [hdef, h1, hi]
    simp only [Ieee.Datum.sum, Option.map_some, Option.getD_some, Ieee.Format.write, word_false, inf32]
    exact Nat.le_refl _
end Go.Proofs.Ytngdmcbjponlhaa
end

/- How a log warms. Nothing is assumed. -/
section
namespace Go.Proofs.Ytngdmcbjponlhaa
open Go
section
variable (O : FOps)
noncomputable def mass (x y : Nat) : Nat := O.bin .add .f32 (O.bin .add .f32 (O.bin .mul .f32 x 1082130432) (O.bin .mul .f32 y 1073741824)) 1048576000
noncomputable def heldH (a : Nat) : Nat := bif O.cmp .lss .f32 a 3262119936 then 3262119936 else bif O.cmp .gtr .f32 a 1153138688 then 1153138688 else a
noncomputable def flow (w : Nat → Nat) (a t : Nat) : Nat → Nat
  | 0 => O.bin .mul .f32 (O.bin .mul .f32 1056964608 (O.bin .sub .f32 a (w 6))) t
  | 6 => 0
  | i + 1 => O.bin .mul .f32 (O.bin .mul .f32 1048576000 (O.bin .sub .f32 (w (6 + i)) (w (7 + i)))) t
noncomputable def heatW (w : Nat → Nat) (a t i : Nat) : Nat := heldH O (O.bin .add .f32 (w (6 + i)) (O.bin .quo .f32 (O.bin .sub .f32 (flow O w a t i) (flow O w a t (i + 1))) (mass O (w i) (w (12 + i)))))
noncomputable def warmW (w : Nat → Nat) (a t : Nat) : Nat → Nat := fun i => [w 0, w 1, w 2, w 3, w 4, w 5, heatW O w a t 0, heatW O w a t 1, heatW O w a t 2, heatW O w a t 3, heatW O w a t 4, heatW O w a t 5, w 12, w 13, w 14, w 15, w 16, w 17].getD i 0
noncomputable def finL (x : Nat) : Bool := O.cmp .eql .f32 (O.bin .sub .f32 x x) 0
noncomputable def finI (x : Nat) : Bool := bif infI O x then false else true
noncomputable def shareB (t : Nat) : Bool := bif decide (t < 2139095040) then O.cmp .leq .f32 t 1065353216 else false
end
theorem finL_eq (x : Nat) : finL fops x = isNum x := fin_eq
theorem finI_eq (x : Nat) : finI fops x = isNum x := by
  unfold finI; rw [infI_eq]; cases isNum x <;> rfl
/-- One of four ways. -/
def way4 (A B C : Bool) (w : Nat → Nat) : Nat → Nat := fun i => bif A then 0 else bif B then 0 else bif C then 0 else w i
noncomputable def heldG (O : FOps) : List SV → Option SV
  | [.c (.flt .f32 a), .c (.flt .f32 l), .c (.flt .f32 h)] => some (.c (.flt .f32 (bif O.cmp .lss .f32 a l then l else bif O.cmp .gtr .f32 a h then h else a)))
  | _ => none
set_option maxRecDepth 100000 in
theorem held_run (O : FOps) (a l h : Nat) : inl ⟨Try.prog, O, orcN Try.prog O [] 1⟩ Try.f95 ⟨fun _ => none, fun _ => none⟩ 1 [.c (.flt .f32 a), .c (.flt .f32 l), .c (.flt .f32 h)] [] =
    some ⟨.c (.flt .f32 (bif O.cmp .lss .f32 a l then l else bif !O.cmp .lss .f32 a l && O.cmp .gtr .f32 a h then h else a)), [], 1, []⟩ := by kernel_rfl
set_option maxRecDepth 100000 in
theorem cHeld : CallOK Try.prog 95 (gS (heldG fops)) :=
  gS_of (inlN_of (l := []) trivial mixed 1 Try.func95 (by kernel_rfl) (fun _ => none)) fun args r E vals hG _ => by
    unfold heldG at hG
    split at hG <;> cases hG
    rename_i a l h _
    refine ⟨rfl, _, held_run fops a l h, rfl, rfl, AllT.nil, fun _ _ hv => ?_⟩
    cases hl : fops.cmp .lss .f32 a l <;> rw [hl] at hv <;> exact hv
end Go.Proofs.Ytngdmcbjponlhaa
end

/- Numbers that are finite. Nothing is assumed. -/
section
namespace Go.Proofs.Ytngdmcbjponlhaa
open Go
noncomputable section
def allB (nm : Nat → Bool) : List Nat → Bool
  | [] => true
  | x :: l => bif nm x then allB nm l else false
def finG (nm : Nat → Bool) : List SV → Option SV
  | [.a l] => match flts l with
    | some xs => match Nat.ble 1 xs.length && Nat.ble xs.length 8 with
      | true => some (.c (.bool (.s (allB nm xs))))
      | false => none
    | none => none
  | _ => none
def fin1G (nm : Nat → Bool) : List SV → Option SV
  | [.c (.flt .f32 x)] => some (.c (.bool (.s (nm x))))
  | _ => none
def finB (O : FOps) : List Nat → Bool
  | [] => true
  | x :: l => bif infI O x then false else finB O l
theorem finB_eq : ∀ l : List Nat, finB fops l = allB isNum l
  | [] => rfl
  | x :: l => by
    show (bif infI fops x then false else finB fops l) = bif isNum x then allB isNum l else false
    rw [infI_eq, finB_eq l]; cases isNum x <;> rfl
def finR (O : FOps) (xs : List Nat) : Option (SV × List Bool) := rE 2 (inl ⟨Try.prog, O, orcN Try.prog O [(108, absS)] 8⟩ Try.f80 ⟨fun _ => none, fun _ => none⟩ 2 [.c (.sl 1 0 1 (.c (.ofNat (xs.length / 1))) false)] [(1, ⟨false, false, .cells (xs.map (SC.flt .f32 ·))⟩)])
set_option maxRecDepth 100000 in
theorem fin_run (O : FOps) : ∀ xs : List Nat, 1 ≤ xs.length → xs.length ≤ 8 → finR O xs = some (.c (.bool (.s (finB O xs))), [])
  | [a], _, _ => by kernel_rfl
  | [a, b], _, _ => by kernel_rfl
  | [a, b, c], _, _ => by kernel_rfl
  | [a, b, c, d], _, _ => by kernel_rfl
  | [a, b, c, d, e], _, _ => by kernel_rfl
  | [a, b, c, d, e, f], _, _ => by kernel_rfl
  | [a, b, c, d, e, f, g], _, _ => by kernel_rfl
  | [a, b, c, d, e, f, g, h], _, _ => by kernel_rfl
  | _ :: _ :: _ :: _ :: _ :: _ :: _ :: _ :: _ :: _, _, h => by simp only [List.length_cons] at h; omega
set_option maxRecDepth 100000 in
theorem cFin : CallOK Try.prog 80 (gQ [.s 1] (finG isNum)) :=
  gQ_of2 (inlN_of (l := [(108, absS)]) ⟨cAbs, trivial⟩ mixed 8 Try.func80 (by kernel_rfl) (fun _ => none)) fun dl r E hG hv => by
    unfold finG at hG
    split at hG <;> try (cases hG; done)
    split at hG <;> try (cases hG; done)
    rename_i xs hx
    split at hG <;> cases hG
    rename_i hb
    simp only [Bool.and_eq_true, Nat.ble_eq] at hb
    rw [flts_ok hx]
    have h := fin_run fops xs hb.1 hb.2
    refine ⟨_, _, ?_, rfl, AllT.nil, fun _ _ h => h⟩
    rw [← finB_eq, ← h]
    show rE 2 (inl _ _ _ 2 [.c (.sl 1 0 1 (.c (.ofNat ((xs.map (SC.flt .f32 ·)).length / 1))) false)] _) = _
    rw [List.length_map]; rfl
set_option maxRecDepth 100000 in
theorem cFinL : CallOK Try.prog 87 (gS (fin1G isNum)) :=
  gS_of2 (inlN_of (l := []) trivial mixed 8 Try.func87 (by kernel_rfl) (fun _ => none)) fun args r E vals hG hr => by
    unfold fin1G at hG
    split at hG <;> cases hG
    rename_i x
    have h : ∀ O : FOps, rE 1 (inl ⟨Try.prog, O, orcN Try.prog O [] 8⟩ Try.f87 ⟨fun _ => none, fun _ => none⟩ 1 [.c (.flt .f32 x)] []) = some (.c (.bool (.s (O.cmp .eql .f32 (O.bin .sub .f32 x x) 0))), []) := fun O => by kernel_rfl
    refine ⟨rfl, _, _, h fops, rfl, AllT.nil, fun _ _ h => ?_⟩
    rw [fin_eq] at h; exact h
end
end Go.Proofs.Ytngdmcbjponlhaa
end

/- The parts of a log's step. Nothing is assumed. -/
section
namespace Go.Proofs.Ytngdmcbjponlhaa
open Go
noncomputable section
variable (O : FOps)
def hot (h : Nat) : Bool := O.cmp .gtr .f32 h 1120403456
def Xd (h t : Nat) : Nat := O.bin .mul .f32 (O.bin .mul .f32 (O.bin .sub .f32 h 1120403456) 990057071) t
def mnI (a x : Nat) : Nat := bif O.cmp .lss .f32 a x then a else x
def mnS (a x : Nat) : Nat := bif O.cmp .lss .f32 x a then x else a
def dryH (d h m : Nat) : Nat := bif O.cmp .lss .f32 (O.bin .sub .f32 h (O.bin .quo .f32 (O.bin .mul .f32 1157234688 d) m)) 1120403456 then 1120403456 else O.bin .sub .f32 h (O.bin .quo .f32 (O.bin .mul .f32 1157234688 d) m)
def dI (w : Nat → Nat) (t i : Nat) : Nat := mnI O (w i) (Xd O (w (6 + i)) t)
def dS (w : Nat → Nat) (t i : Nat) : Nat := mnS O (w i) (Xd O (w (6 + i)) t)
def wetI (w : Nat → Nat) (t i : Nat) : Nat := bif !hot O (w (6 + i)) then w i else O.bin .sub .f32 (w i) (dI O w t i)
def wetS (w : Nat → Nat) (t i : Nat) : Nat := bif hot O (w (6 + i)) then O.bin .sub .f32 (w i) (dS O w t i) else w i
def htI (w : Nat → Nat) (t i : Nat) : Nat := bif !hot O (w (6 + i)) then w (6 + i) else dryH O (dI O w t i) (w (6 + i)) (mass O (w i) (w (12 + i)))
def htS (w : Nat → Nat) (t i : Nat) : Nat := bif hot O (w (6 + i)) then dryH O (dS O w t i) (w (6 + i)) (mass O (w i) (w (12 + i))) else w (6 + i)
def smI (w : Nat → Nat) (t : Nat) : Nat → Nat
  | 0 => 0
  | i + 1 => bif !hot O (w (6 + i)) then smI w t i else O.bin .add .f32 (smI w t i) (dI O w t i)
def smS (w : Nat → Nat) (t : Nat) : Nat → Nat
  | 0 => bif hot O (w 6) then dS O w t 0 else 0
  | i + 1 => O.bin .add .f32 (smS w t i) (bif hot O (w (7 + i)) then dS O w t (i + 1) else 0)
def dryI (w : Nat → Nat) (t : Nat) : Nat → Nat := fun j => [wetI O w t 0, wetI O w t 1, wetI O w t 2, wetI O w t 3, wetI O w t 4, wetI O w t 5, htI O w t 0, htI O w t 1, htI O w t 2, htI O w t 3, htI O w t 4, htI O w t 5, w 12, w 13, w 14, w 15, w 16, w 17].getD j 0
def dryS (w : Nat → Nat) (t : Nat) : Nat → Nat := fun j => [wetS O w t 0, wetS O w t 1, wetS O w t 2, wetS O w t 3, wetS O w t 4, wetS O w t 5, htS O w t 0, htS O w t 1, htS O w t 2, htS O w t 3, htS O w t 4, htS O w t 5, w 12, w 13, w 14, w 15, w 16, w 17].getD j 0
def Xb (h a t : Nat) : Nat := O.bin .mul .f32 (O.bin .mul .f32 (O.bin .mul .f32 (O.bin .sub .f32 h 1132068864) 981668463) a) t
def offI (w : Nat → Nat) (i : Nat) : Bool := bif O.cmp .geq .f32 (w (6 + i)) 1132068864 then (bif O.cmp .lss .f32 (w i) 1040187392 then false else true) else true
def onS (w : Nat → Nat) (i : Nat) : Bool := bif O.cmp .geq .f32 (w (6 + i)) 1132068864 then O.cmp .lss .f32 (w i) 1040187392 else false
def buI (w : Nat → Nat) (a t i : Nat) : Nat := mnI O (w (12 + i)) (Xb O (w (6 + i)) a t)
def buS (w : Nat → Nat) (a t i : Nat) : Nat := mnS O (w (12 + i)) (Xb O (w (6 + i)) a t)
def bq (b h m : Nat) : Nat := O.bin .add .f32 h (O.bin .quo .f32 (O.bin .mul .f32 1157234688 b) m)
def bhI (w : Nat → Nat) (a t i : Nat) : Nat := bif offI O w i then w (6 + i) else bif O.cmp .gtr .f32 (bq O (buI O w a t i) (w (6 + i)) (mass O (w i) (w (12 + i)))) 1153138688 then 1153138688 else bq O (buI O w a t i) (w (6 + i)) (mass O (w i) (w (12 + i)))
def bhS (w : Nat → Nat) (a t i : Nat) : Nat := bif onS O w i then mnS O (bq O (buS O w a t i) (w (6 + i)) (mass O (w i) (w (12 + i)))) 1153138688 else w (6 + i)
def fuI (w : Nat → Nat) (a t i : Nat) : Nat := bif offI O w i then w (12 + i) else O.bin .sub .f32 (w (12 + i)) (buI O w a t i)
def fuS (w : Nat → Nat) (a t i : Nat) : Nat := bif onS O w i then O.bin .sub .f32 (w (12 + i)) (buS O w a t i) else w (12 + i)
def fsI (w : Nat → Nat) (a t : Nat) : Nat → Nat
  | 0 => 0
  | i + 1 => bif offI O w i then fsI w a t i else O.bin .add .f32 (fsI w a t i) (buI O w a t i)
def fsS (w : Nat → Nat) (a t : Nat) : Nat → Nat
  | 0 => bif onS O w 0 then buS O w a t 0 else 0
  | i + 1 => O.bin .add .f32 (fsS w a t i) (bif onS O w (i + 1) then buS O w a t (i + 1) else 0)
def hsI (w : Nat → Nat) (a t : Nat) : Nat → Nat
  | 0 => 0
  | i + 1 => bif offI O w i then hsI w a t i else O.bin .add .f32 (hsI w a t i) (O.bin .mul .f32 1167867904 (buI O w a t i))
def hsS (w : Nat → Nat) (a t : Nat) : Nat → Nat
  | 0 => O.bin .mul .f32 1167867904 (bif onS O w 0 then buS O w a t 0 else 0)
  | i + 1 => O.bin .add .f32 (hsS w a t i) (O.bin .mul .f32 1167867904 (bif onS O w (i + 1) then buS O w a t (i + 1) else 0))
def burnI (w : Nat → Nat) (a t : Nat) : Nat → Nat := fun j => [w 0, w 1, w 2, w 3, w 4, w 5, bhI O w a t 0, bhI O w a t 1, bhI O w a t 2, bhI O w a t 3, bhI O w a t 4, bhI O w a t 5, fuI O w a t 0, fuI O w a t 1, fuI O w a t 2, fuI O w a t 3, fuI O w a t 4, fuI O w a t 5].getD j 0
def burnS (w : Nat → Nat) (a t : Nat) : Nat → Nat := fun j => [w 0, w 1, w 2, w 3, w 4, w 5, bhS O w a t 0, bhS O w a t 1, bhS O w a t 2, bhS O w a t 3, bhS O w a t 4, bhS O w a t 5, fuS O w a t 0, fuS O w a t 1, fuS O w a t 2, fuS O w a t 3, fuS O w a t 4, fuS O w a t 5].getD j 0
end
def wdL (w : Nat → Nat) : List SC := [.flt .f32 (w 0), .flt .f32 (w 1), .flt .f32 (w 2), .flt .f32 (w 3), .flt .f32 (w 4), .flt .f32 (w 5), .flt .f32 (w 6), .flt .f32 (w 7), .flt .f32 (w 8), .flt .f32 (w 9), .flt .f32 (w 10), .flt .f32 (w 11), .flt .f32 (w 12), .flt .f32 (w 13), .flt .f32 (w 14), .flt .f32 (w 15), .flt .f32 (w 16), .flt .f32 (w 17)]
noncomputable section
def dryG (O : FOps) (D : FOps → (Nat → Nat) → Nat → Nat → Nat) (S : FOps → (Nat → Nat) → Nat → Nat) : List SV → Option SV
  | [v, .c (.flt .f32 t)] => match wdOf v with
    | some w => some (.tup [.a (wdL (D O w t)), .c (.flt .f32 (S O w t))])
    | none => none
  | _ => none
def burnG (O : FOps) (D : FOps → (Nat → Nat) → Nat → Nat → Nat → Nat) (S1 S2 : FOps → (Nat → Nat) → Nat → Nat → Nat) : List SV → Option SV
  | [v, .c (.flt .f32 a), .c (.flt .f32 t)] => match wdOf v with
    | some w => some (.tup [.a (wdL (D O w a t)), .c (.flt .f32 (S1 O w a t)), .c (.flt .f32 (S2 O w a t))])
    | none => none
  | _ => none
def warmG (O : FOps) : List SV → Option SV
  | [v, .c (.flt .f32 a), .c (.flt .f32 t)] => match wdOf v with
    | some w => some (.tup [.a (wdL (warmW O w a t)), .c (.flt .f32 (flow O w a t 0))])
    | none => none
  | _ => none
def warmSG (O : FOps) (nm : Nat → Bool) : List SV → Option SV
  | [v, .c (.flt .f32 a), .c (.flt .f32 t)] => match wdOf v with
    | some w => some (.tup [.a (wdL fun i => bif !nm (flow O w a t 0) then 0 else warmW O w a t i), .c (.flt .f32 (bif !nm (flow O w a t 0) then 0 else flow O w a t 0)), .c (.int .i64 (.s (bif !nm (flow O w a t 0) then 4 else 0)))])
    | none => none
  | _ => none
def validG (vl : (Nat → Nat) → Bool) : List SV → Option SV
  | [v] => match wdOf v with
    | some w => some (.c (.bool (.s (vl w))))
    | none => none
  | _ => none
def LSt (O : FOps) (nm : Nat → Bool) : List (Nat × CS) := [(61, amtS), (66, amtS), (95, gS (heldG O)), (80, gQ [.s 1] (finG nm)), (87, gS (fin1G nm))]
set_option maxRecDepth 100000 in
theorem okLSt : AllOK Try.prog (LSt fops isNum) := ⟨cAmtI, cAmtL, cHeld, cFin, cFinL, trivial⟩
set_option maxRecDepth 100000 in
theorem cDryI_run (O : FOps) (nm : Nat → Bool) (w : Nat → Nat) (t : Nat) : rE 1 (inl ⟨Try.prog, O, orcN Try.prog O (LSt O nm) 8⟩ Try.f106 ⟨fun _ => none, fun _ => none⟩ 1 [wd w, .c (.flt .f32 t)] []) = some (.tup [.a (wdL (dryI O w t)), .c (.flt .f32 (smI O w t 6))], []) := by kernel_rfl
set_option maxRecDepth 100000 in
theorem cDryI : CallOK Try.prog 106 (gS (dryG fops dryI (fun O w t => smI O w t 6))) :=
  gS_of2 (inlN_of (l := LSt fops isNum) okLSt mixed 8 Try.func106 (by kernel_rfl) (fun _ => none)) fun args r E vals hG hr => by
    unfold dryG at hG
    split at hG <;> try (cases hG; done)
    split at hG <;> cases hG
    rename_i w hw
    rw [wdOf_ok hw]
    exact ⟨rfl, _, _, cDryI_run fops isNum w _, rfl, AllT.nil, fun _ _ h => h⟩
set_option maxRecDepth 100000 in
theorem cDryS_run (O : FOps) (nm : Nat → Bool) (w : Nat → Nat) (t : Nat) : rE 2 (inl ⟨Try.prog, O, orcN Try.prog O (LSt O nm) 8⟩ Try.f101 ⟨fun _ => none, fun _ => none⟩ 2 [.c (.ptr 1 0), .c (.flt .f32 t)] [(1, ⟨false, false, .cells (wdL w)⟩)]) = some (.tup [.a (wdL (dryS O w t)), .c (.flt .f32 (smS O w t 5))], []) := by kernel_rfl
set_option maxRecDepth 100000 in
theorem cDryS : CallOK Try.prog 101 (gQ [.p 18, .v] (dryG fops dryS (fun O w t => smS O w t 5))) :=
  gQ_of2 (inlN_of (l := LSt fops isNum) okLSt mixed 8 Try.func101 (by kernel_rfl) (fun _ => none)) fun dl r E hG hv => by
    unfold dryG at hG
    split at hG <;> try (cases hG; done)
    split at hG <;> cases hG
    rename_i w hw
    rw [wdOf_ok hw]
    exact ⟨_, _, cDryS_run fops isNum w _, rfl, AllT.nil, fun _ _ h => h⟩
set_option maxRecDepth 100000 in
theorem cBurnI_run (O : FOps) (nm : Nat → Bool) (w : Nat → Nat) (a t : Nat) : rE 1 (inl ⟨Try.prog, O, orcN Try.prog O (LSt O nm) 8⟩ Try.f107 ⟨fun _ => none, fun _ => none⟩ 1 [wd w, .c (.flt .f32 a), .c (.flt .f32 t)] []) = some (.tup [.a (wdL (burnI O w a t)), .c (.flt .f32 (hsI O w a t 6)), .c (.flt .f32 (fsI O w a t 6))], []) := by kernel_rfl
set_option maxRecDepth 100000 in
theorem cBurnI : CallOK Try.prog 107 (gS (burnG fops burnI (fun O w a t => hsI O w a t 6) (fun O w a t => fsI O w a t 6))) :=
  gS_of2 (inlN_of (l := LSt fops isNum) okLSt mixed 8 Try.func107 (by kernel_rfl) (fun _ => none)) fun args r E vals hG hr => by
    unfold burnG at hG
    split at hG <;> try (cases hG; done)
    split at hG <;> cases hG
    rename_i w hw
    rw [wdOf_ok hw]
    exact ⟨rfl, _, _, cBurnI_run fops isNum w _ _, rfl, AllT.nil, fun _ _ h => h⟩
set_option maxRecDepth 100000 in
theorem cBurnS_run (O : FOps) (nm : Nat → Bool) (w : Nat → Nat) (a t : Nat) : rE 2 (inl ⟨Try.prog, O, orcN Try.prog O (LSt O nm) 8⟩ Try.f102 ⟨fun _ => none, fun _ => none⟩ 2 [.c (.ptr 1 0), .c (.flt .f32 a), .c (.flt .f32 t)] [(1, ⟨false, false, .cells (wdL w)⟩)]) = some (.tup [.a (wdL (burnS O w a t)), .c (.flt .f32 (hsS O w a t 5)), .c (.flt .f32 (fsS O w a t 5))], []) := by kernel_rfl
set_option maxRecDepth 100000 in
theorem cBurnS : CallOK Try.prog 102 (gQ [.p 18, .v, .v] (burnG fops burnS (fun O w a t => hsS O w a t 5) (fun O w a t => fsS O w a t 5))) :=
  gQ_of2 (inlN_of (l := LSt fops isNum) okLSt mixed 8 Try.func102 (by kernel_rfl) (fun _ => none)) fun dl r E hG hv => by
    unfold burnG at hG
    split at hG <;> try (cases hG; done)
    split at hG <;> cases hG
    rename_i w hw
    rw [wdOf_ok hw]
    exact ⟨_, _, cBurnS_run fops isNum w _ _, rfl, AllT.nil, fun _ _ h => h⟩
set_option maxRecDepth 100000 in
theorem cWarmI_run (O : FOps) (nm : Nat → Bool) (w : Nat → Nat) (a t : Nat) : rE 1 (inl ⟨Try.prog, O, orcN Try.prog O (LSt O nm) 8⟩ Try.f105 ⟨fun _ => none, fun _ => none⟩ 1 [wd w, .c (.flt .f32 a), .c (.flt .f32 t)] []) = some (.tup [.a (wdL (warmW O w a t)), .c (.flt .f32 (flow O w a t 0))], []) := by kernel_rfl
set_option maxRecDepth 100000 in
theorem cWarmI : CallOK Try.prog 105 (gS (warmG fops)) :=
  gS_of2 (inlN_of (l := LSt fops isNum) okLSt mixed 8 Try.func105 (by kernel_rfl) (fun _ => none)) fun args r E vals hG hr => by
    unfold warmG at hG
    split at hG <;> try (cases hG; done)
    split at hG <;> cases hG
    rename_i w hw
    rw [wdOf_ok hw]
    exact ⟨rfl, _, _, cWarmI_run fops isNum w _ _, rfl, AllT.nil, fun _ _ h => h⟩
set_option maxRecDepth 100000 in
theorem cWarmS_run (O : FOps) (nm : Nat → Bool) (w : Nat → Nat) (a t : Nat) : rE 2 (inl ⟨Try.prog, O, orcN Try.prog O (LSt O nm) 8⟩ Try.f100 ⟨fun _ => none, fun _ => none⟩ 2 [.c (.ptr 1 0), .c (.flt .f32 a), .c (.flt .f32 t)] [(1, ⟨false, false, .cells (wdL w)⟩)]) = some (.tup [.a (wdL fun i => bif !nm (flow O w a t 0) then 0 else warmW O w a t i), .c (.flt .f32 (bif !nm (flow O w a t 0) then 0 else flow O w a t 0)), .c (.int .i64 (.s (bif !nm (flow O w a t 0) then 4 else 0)))], []) := by kernel_rfl
set_option maxRecDepth 100000 in
theorem cWarmS : CallOK Try.prog 100 (gQ [.p 18, .v, .v] (warmSG fops isNum)) :=
  gQ_of2 (inlN_of (l := LSt fops isNum) okLSt mixed 8 Try.func100 (by kernel_rfl) (fun _ => none)) fun dl r E hG hv => by
    unfold warmSG at hG
    split at hG <;> try (cases hG; done)
    split at hG <;> cases hG
    rename_i w hw
    rw [wdOf_ok hw]
    exact ⟨_, _, cWarmS_run fops isNum w _ _, rfl, AllT.nil, fun _ _ h => h⟩
set_option maxRecDepth 100000 in
theorem cValI_run (O : FOps) (nm : Nat → Bool) (w : Nat → Nat) : rE 1 (inl ⟨Try.prog, O, orcN Try.prog O (LSt O nm) 8⟩ Try.f58 ⟨fun _ => none, fun _ => none⟩ 1 [wd w] []) = some (.c (.bool (.s (six (badI O w)))), []) := by kernel_rfl
set_option maxRecDepth 100000 in
theorem cValI : CallOK Try.prog 58 (gS (validG valid)) :=
  gS_of2 (inlN_of (l := LSt fops isNum) okLSt mixed 8 Try.func58 (by kernel_rfl) (fun _ => none)) fun args r E vals hG hr => by
    unfold validG at hG
    split at hG <;> try (cases hG; done)
    split at hG <;> cases hG
    rename_i w hw
    rw [wdOf_ok hw]
    exact ⟨rfl, _, _, cValI_run fops isNum w, rfl, AllT.nil, fun _ _ h => by rw [validI_eq] at h; exact h⟩
set_option maxRecDepth 100000 in
theorem cValS_run (O : FOps) (nm : Nat → Bool) (w : Nat → Nat) : rE 2 (inl ⟨Try.prog, O, orcN Try.prog O (LSt O nm) 8⟩ Try.f72 ⟨fun _ => none, fun _ => none⟩ 2 [.c (.ptr 1 0)] [(1, ⟨false, false, .cells (wdL w)⟩)]) = some (.c (.bool (.s (six (badS O w)))), []) := by kernel_rfl
set_option maxRecDepth 100000 in
theorem cValS : CallOK Try.prog 72 (gQ [.p 18] (validG valid)) :=
  gQ_of2 (inlN_of (l := LSt fops isNum) okLSt mixed 8 Try.func72 (by kernel_rfl) (fun _ => none)) fun dl r E hG hv => by
    unfold validG at hG
    split at hG <;> try (cases hG; done)
    split at hG <;> cases hG
    rename_i w hw
    rw [wdOf_ok hw]
    exact ⟨_, _, cValS_run fops isNum w, rfl, AllT.nil, fun _ _ h => by rw [validS_eq] at h; exact h⟩
end
end Go.Proofs.Ytngdmcbjponlhaa
end

/- Whether a stove is valid, with any number of logs. Nothing is assumed. -/
section
namespace Go.Proofs.Ytngdmcbjponlhaa.Stv
open Go SlWood
noncomputable def LV (O : FOps) (vl : (Nat → Nat) → Bool) : List (Nat × CS) := [(58, gS (validG vl)), (72, gQ [.p 18] (validG vl)), (61, amtS), (66, amtS), (108, absS)]
set_option maxRecDepth 100000 in
theorem okLV : AllOK Try.prog (LV fops valid) := ⟨cValI, cValS, cAmtI, cAmtL, cAbs, trivial⟩
noncomputable def cxV (O : FOps) (vl : (Nat → Nat) → Bool) : Cx := ⟨Try.prog, O, orcN Try.prog O (LV O vl) 8⟩
noncomputable def onV (x y : Nat) (a b : Bool) (t : Nat) : Option Bool := bif Nat.beq t x then some a else bif Nat.beq t y then some b else none
noncomputable def at18 (F : Nat → Int → Nat) (k : Int) (i : Nat) : Nat := [F 0 k, F 1 k, F 2 k, F 3 k, F 4 k, F 5 k, F 6 k, F 7 k, F 8 k, F 9 k, F 10 k, F 11 k, F 12 k, F 13 k, F 14 k, F 15 k, F 16 k, F 17 k].getD i 0
noncomputable def qV (vl : (Nat → Nat) → Bool) (F : Nat → Int → Nat) (k : Int) : Bool := vl fun i => at18 F k i
noncomputable def stK : List KC := [.sl 1 0 18 false, .flt .f32, .flt .f32, .int .i8, .int .i64, .flt .f32]
noncomputable def sgs : List (Nat × KS) := [(1, ⟨false, false, .rows 18⟩)]
noncomputable def sgsI : List (Nat × KS) := [(1, ⟨false, false, .rows 18⟩), (2, ⟨true, true, .cells stK⟩)]
noncomputable def idx3 (n k : Int) : List Bool := [decide (k < n), decide (0 ≤ k ∧ k < n), decide (0 ≤ k ∧ k < n)]
theorem idx3_ok {n k : Int} (h0 : 0 ≤ k) (h1 : k < n) : AllT (idx3 n k) := by
  have h2 : decide (0 ≤ k ∧ k < n) = true := by simp; omega
  exact AllT.cons (by simpa using h1) (AllT.cons h2 (AllT.cons h2 AllT.nil))

/-! ### impl.ValidStove -/
noncomputable def skI : Sk := ⟨[(1, .c (.ptr 2 0)), (10, .c (.sl 1 0 18 false)), (11, .c (.int .i64)), (12, .c (.int .i64))], sgsI, 3⟩
noncomputable def skIR : Sk := ⟨[(2, .c (.boolc false))], sgs, 3⟩
noncomputable def skIE : Sk := ⟨[(1, .c (.ptr 2 0))], sgsI, 3⟩
noncomputable def NI : Nat := Try.f22.ntmps
noncomputable def goI (O : FOps) (vl : (Nat → Nat) → Bool) (a b : Bool) (sk : Sk) (F : Nat → Int → Nat) (G : Nat → Int → Int) (n k : Int) (x y z : Nat) (s t : Int) : Option (Option XK × List LD × List Bool) :=
  goL (cxV O vl) NI ⟨onV 13 18 a b, fun _ => none⟩ (bodyOf Try.f22 4) 3 60 skI [] sk [.i n, .i n, .i k, .i n, .r (Row F G), .i n, .f x, .f y, .i s, .i t, .f z]
set_option maxRecDepth 100000 in
theorem stI (O : FOps) (vl : (Nat → Nat) → Bool) (F : Nat → Int → Nat) (G : Nat → Int → Int) (n k : Int) (x y z : Nat) (s t : Int) : goI O vl true false skI F G n k x y z s t =
    some (none, [.i n, .i n, .i (IntKind.i64.wrap (k + 1)), .i n, .r (Row F G), .i n, .f x, .f y, .i s, .i t, .f z], idx3 n k ++ [!!(qV vl F k), flatR (Row F G)]) := by kernel_rfl
set_option maxRecDepth 100000 in
theorem reI (O : FOps) (vl : (Nat → Nat) → Bool) (F : Nat → Int → Nat) (G : Nat → Int → Int) (n k : Int) (x y z : Nat) (s t : Int) : goI O vl true true skIR F G n k x y z s t =
    some (some .ret, [.i n, .r (Row F G)], idx3 n k ++ [!(qV vl F k), flatR (Row F G)]) := by kernel_rfl
set_option maxRecDepth 100000 in
theorem enI (O : FOps) (vl : (Nat → Nat) → Bool) (F : Nat → Int → Nat) (G : Nat → Int → Int) (n k : Int) (x y z : Nat) (s t : Int) : goI O vl false true skIE F G n k x y z s t =
    some (some (.exit 0), [.i n, .r (Row F G), .i n, .f x, .f y, .i s, .i t, .f z], [!decide (k < n), flatR (Row F G)]) := by kernel_rfl
theorem loI (F : Nat → Int → Nat) (G : Nat → Int → Int) (n : Int) (hn : n ≤ 1048576) (x y z : Nat) (s t : Int) : ∀ (m : Nat) (k : Int), 0 ≤ k → k + m = n →
    (eqFrom (qV valid F) k m = true → Loops (cxV fops valid) NI (fun _ => none) (bodyOf Try.f22 4) 3 60 skI [.i n, .i n, .i k, .i n, .r (Row F G), .i n, .f x, .f y, .i s, .i t, .f z] (.exit 0) skIE [.i n, .r (Row F G), .i n, .f x, .f y, .i s, .i t, .f z]) ∧
    (eqFrom (qV valid F) k m = false → Loops (cxV fops valid) NI (fun _ => none) (bodyOf Try.f22 4) 3 60 skI [.i n, .i n, .i k, .i n, .r (Row F G), .i n, .f x, .f y, .i s, .i t, .f z] .ret skIR [.i n, .r (Row F G)]) := by
  have fl : AllT [flatR (Row F G)] := AllT.cons (rowK_flat _ _ _) AllT.nil
  intro m
  induction m with
  | zero =>
    intro k hk hkn
    have e : k = n := by omega
    subst e
    refine ⟨fun _ => .done (ts := onV 13 18 false true) (ρ := []) (enI fops valid F G k k x y z s t) (AllT.cons (by simp) fl), fun h => by cases h⟩
  | succ m ih =>
    intro k hk hkn
    have hlt : k < n := by omega
    obtain ⟨i1, i2⟩ := ih (k + 1) (by omega) (by omega)
    have hE : eqFrom (qV valid F) k (m + 1) = bif qV valid F k then eqFrom (qV valid F) (k + 1) m else false := rfl
    rw [hE]
    cases hq : qV valid F k with
    | true =>
      have h1 := stI fops valid F G n k x y z s t
      rw [wrap_succ hk (by omega)] at h1
      have ho : AllT (idx3 n k ++ [!!(qV valid F k), flatR (Row F G)]) := AllT.app (idx3_ok hk hlt) (AllT.cons (by rw [hq]; rfl) fl)
      exact ⟨fun h => .step (ts := onV 13 18 true false) (ρ := []) h1 ho (i1 h), fun h => .step (ts := onV 13 18 true false) (ρ := []) h1 ho (i2 h)⟩
    | false =>
      refine ⟨fun h => (by cases h), fun _ => .done (ts := onV 13 18 true true) (ρ := []) (reI fops valid F G n k x y z s t) (AllT.app (idx3_ok hk hlt) (AllT.cons (by rw [hq]; rfl) fl))⟩
def PreI (n m k n1 n2 : Int) (row : Int → List SC) : Prop := m = n ∧ k = 0 ∧ n1 = n ∧ n2 = n ∧ 0 ≤ n ∧ n ≤ 1048576 ∧ Shape ts row
noncomputable def FI (vl : (Nat → Nat) → Bool) : List LD → Option (XO × List Bool)
  | [.i n, .i m, .i k, .i n1, .r row, .i n2, .f x, .f y, .i s, .i t, .f z] => some ([(.s (!eqFrom (qV vl (datF row)) 0 n.toNat), .ret, skIR, [.i n, .r row]), (.t, .exit 0, skIE, [.i n, .r row, .i n, .f x, .f y, .i s, .i t, .f z])], [pB (PreI n m k n1 n2 row)])
  | _ => none
noncomputable def LI (O : FOps) (vl : (Nat → Nat) → Bool) : List Ly → Top → Option Outs := orIter (cxV O vl) NI (bodyOf Try.f22 4) (loopL NI 3 60 skI [] (FI vl))
set_option maxRecDepth 100000 in
theorem okI : CodeOK Try.prog NI (.loop (bodyOf Try.f22 4)) (LI fops valid) := by
  refine orIter_ok (l := LV fops valid) okLV mixed 8 (loopL_ok (cx := cxV fops valid) (lp := fun _ => none) (fun ts => body_ok (l := LV fops valid) okLV mixed 8 _ ts) fun p r hr hob => ?_)
  unfold FI at hr
  split at hr <;> cases hr
  rename_i n m k n1 row n2 x y s t z
  obtain ⟨e1, e2, e3, e4, h0, hm, hs⟩ := pB_iff.1 hob.head
  obtain ⟨h1, h2⟩ := loI (datF row) (datG row) n hm x y z s t n.toNat 0 (Int.le_refl _) (by omega)
  have hs1 : Row (datF row) (datG row) = row := hs.symm
  rw [hs1] at h1 h2
  rw [e1, e2, e3, e4]
  cases hq : eqFrom (qV valid (datF row)) 0 n.toNat with
  | true => exact ⟨_, _, _, by simp [pickX, SB.val], h1 hq⟩
  | false => exact ⟨_, _, _, by simp [pickX, SB.val], h2 hq⟩
/-- The contract of impl.ValidStove. -/
noncomputable def cIS (O : FOps) (vl : (Nat → Nat) → Bool) : CS := roS (canS (inl (cxV O vl) Try.f22 ⟨fun _ => none, lpOf [(4, LI O vl)]⟩))
set_option maxRecDepth 100000 in
theorem cI : CallOK Try.prog 22 (cIS fops valid) := by
  have hb : Try.f22.body.isSome = true := by kernel_rfl
  obtain ⟨c, hc⟩ := Option.isSome_iff_exists.1 hb
  have h1 : (match Try.f22.body with | some c => onceB (loopsIn c) && (match loopAt 4 (loopsIn c) with | some _ => true | none => false) | none => false) = true := by kernel_rfl
  rw [hc] at h1
  simp only [Bool.and_eq_true] at h1
  exact (inlL_of (l := LV fops valid) (ls := [(4, LI fops valid)]) okLV mixed 8 Try.func22 (by kernel_rfl) (fun _ => none) hc h1.1 ⟨⟨_, bodyOf_at hc h1.2, okI⟩, trivial⟩).can.ro
/-! ### spec.l02Ok -/
noncomputable def skS : Sk := ⟨[(0, .c (.ptr 2 0)), (3, .c (.int .i64))], [(1, ⟨false, false, .rows 18⟩), (2, ⟨false, false, .cells stK⟩)], 3⟩
noncomputable def skSR : Sk := ⟨[(2, .c (.boolc false))], sgs, 3⟩
noncomputable def skSE : Sk := ⟨[], sgs, 3⟩
noncomputable def NS : Nat := Try.f57.ntmps
noncomputable def goS (O : FOps) (vl : (Nat → Nat) → Bool) (a b : Bool) (sk : Sk) (F : Nat → Int → Nat) (G : Nat → Int → Int) (n k : Int) (x y z : Nat) (s t : Int) : Option (Option XK × List LD × List Bool) :=
  goL (cxV O vl) NS ⟨onV 71 81 a b, fun _ => none⟩ (bodyOf Try.f57 4) 3 60 skS [] sk [.i k, .i n, .r (Row F G), .i n, .f x, .f y, .i s, .i t, .f z]
set_option maxRecDepth 100000 in
theorem stS (O : FOps) (vl : (Nat → Nat) → Bool) (F : Nat → Int → Nat) (G : Nat → Int → Int) (n k : Int) (x y z : Nat) (s t : Int) : goS O vl true false skS F G n k x y z s t =
    some (none, [.i (IntKind.i64.wrap (k + 1)), .i n, .r (Row F G), .i n, .f x, .f y, .i s, .i t, .f z], idx3 n k ++ [!!(qV vl F k), flatR (Row F G)]) := by kernel_rfl
set_option maxRecDepth 100000 in
theorem reS (O : FOps) (vl : (Nat → Nat) → Bool) (F : Nat → Int → Nat) (G : Nat → Int → Int) (n k : Int) (x y z : Nat) (s t : Int) : goS O vl true true skSR F G n k x y z s t =
    some (some .ret, [.i n, .r (Row F G)], idx3 n k ++ [!(qV vl F k), flatR (Row F G)]) := by kernel_rfl
set_option maxRecDepth 100000 in
theorem enS (O : FOps) (vl : (Nat → Nat) → Bool) (F : Nat → Int → Nat) (G : Nat → Int → Int) (n k : Int) (x y z : Nat) (s t : Int) : goS O vl false true skSE F G n k x y z s t =
    some (some (.exit 0), [.i n, .r (Row F G)], [!decide (k < n), flatR (Row F G)]) := by kernel_rfl
theorem loS (F : Nat → Int → Nat) (G : Nat → Int → Int) (n : Int) (hn : n ≤ 1048576) (x y z : Nat) (s t : Int) : ∀ (m : Nat) (k : Int), 0 ≤ k → k + m = n →
    (eqFrom (qV valid F) k m = true → Loops (cxV fops valid) NS (fun _ => none) (bodyOf Try.f57 4) 3 60 skS [.i k, .i n, .r (Row F G), .i n, .f x, .f y, .i s, .i t, .f z] (.exit 0) skSE [.i n, .r (Row F G)]) ∧
    (eqFrom (qV valid F) k m = false → Loops (cxV fops valid) NS (fun _ => none) (bodyOf Try.f57 4) 3 60 skS [.i k, .i n, .r (Row F G), .i n, .f x, .f y, .i s, .i t, .f z] .ret skSR [.i n, .r (Row F G)]) := by
  have fl : AllT [flatR (Row F G)] := AllT.cons (rowK_flat _ _ _) AllT.nil
  intro m
  induction m with
  | zero =>
    intro k hk hkn
    have e : k = n := by omega
    subst e
    refine ⟨fun _ => .done (ts := onV 71 81 false true) (ρ := []) (enS fops valid F G k k x y z s t) (AllT.cons (by simp) fl), fun h => by cases h⟩
  | succ m ih =>
    intro k hk hkn
    have hlt : k < n := by omega
    obtain ⟨i1, i2⟩ := ih (k + 1) (by omega) (by omega)
    have hE : eqFrom (qV valid F) k (m + 1) = bif qV valid F k then eqFrom (qV valid F) (k + 1) m else false := rfl
    rw [hE]
    cases hq : qV valid F k with
    | true =>
      have h1 := stS fops valid F G n k x y z s t
      rw [wrap_succ hk (by omega)] at h1
      have ho : AllT (idx3 n k ++ [!!(qV valid F k), flatR (Row F G)]) := AllT.app (idx3_ok hk hlt) (AllT.cons (by rw [hq]; rfl) fl)
      exact ⟨fun h => .step (ts := onV 71 81 true false) (ρ := []) h1 ho (i1 h), fun h => .step (ts := onV 71 81 true false) (ρ := []) h1 ho (i2 h)⟩
    | false =>
      refine ⟨fun h => (by cases h), fun _ => .done (ts := onV 71 81 true true) (ρ := []) (reS fops valid F G n k x y z s t) (AllT.app (idx3_ok hk hlt) (AllT.cons (by rw [hq]; rfl) fl))⟩
def PreS (n m k n1 n2 : Int) (row : Int → List SC) : Prop := m = n ∧ k = 0 ∧ n1 = n ∧ n2 = n ∧ 0 ≤ n ∧ n ≤ 1048576 ∧ Shape ts row
noncomputable def FS (vl : (Nat → Nat) → Bool) : List LD → Option (XO × List Bool)
  | [.i k, .i n, .r row, .i m, .f x, .f y, .i s, .i t, .f z] => some ([(.s (!eqFrom (qV vl (datF row)) 0 n.toNat), .ret, skSR, [.i n, .r row]), (.t, .exit 0, skSE, [.i n, .r row])], [pB (PreS n m k n n row)])
  | _ => none
noncomputable def LS (O : FOps) (vl : (Nat → Nat) → Bool) : List Ly → Top → Option Outs := orIter (cxV O vl) NS (bodyOf Try.f57 4) (loopL NS 3 60 skS [] (FS vl))
set_option maxRecDepth 100000 in
theorem okS : CodeOK Try.prog NS (.loop (bodyOf Try.f57 4)) (LS fops valid) := by
  refine orIter_ok (l := LV fops valid) okLV mixed 8 (loopL_ok (cx := cxV fops valid) (lp := fun _ => none) (fun ts => body_ok (l := LV fops valid) okLV mixed 8 _ ts) fun p r hr hob => ?_)
  unfold FS at hr
  split at hr <;> cases hr
  rename_i k n row m x y s t z
  obtain ⟨e1, e2, e3, e4, h0, hm, hs⟩ := pB_iff.1 hob.head
  obtain ⟨h1, h2⟩ := loS (datF row) (datG row) n hm x y z s t n.toNat 0 (Int.le_refl _) (by omega)
  have hs1 : Row (datF row) (datG row) = row := hs.symm
  rw [hs1] at h1 h2
  rw [e1, e2]
  cases hq : eqFrom (qV valid (datF row)) 0 n.toNat with
  | true => exact ⟨_, _, _, by simp [pickX, SB.val], h1 hq⟩
  | false => exact ⟨_, _, _, by simp [pickX, SB.val], h2 hq⟩
/-- The contract of spec.l02Ok. -/
noncomputable def cSS (O : FOps) (vl : (Nat → Nat) → Bool) : CS := roS (canS (inl (cxV O vl) Try.f57 ⟨fun _ => none, lpOf [(4, LS O vl)]⟩))
set_option maxRecDepth 100000 in
theorem cS : CallOK Try.prog 57 (cSS fops valid) := by
  have hb : Try.f57.body.isSome = true := by kernel_rfl
  obtain ⟨c, hc⟩ := Option.isSome_iff_exists.1 hb
  have h1 : (match Try.f57.body with | some c => onceB (loopsIn c) && (match loopAt 4 (loopsIn c) with | some _ => true | none => false) | none => false) = true := by kernel_rfl
  rw [hc] at h1
  simp only [Bool.and_eq_true] at h1
  exact (inlL_of (l := LV fops valid) (ls := [(4, LS fops valid)]) okLV mixed 8 Try.func57 (by kernel_rfl) (fun _ => none) hc h1.1 ⟨⟨_, bodyOf_at hc h1.2, okS⟩, trivial⟩).can.ro
end Go.Proofs.Ytngdmcbjponlhaa.Stv
end

/- Stoves: validity told by hand. Nothing is assumed. -/
section
namespace Go.Proofs.Ytngdmcbjponlhaa.Sto
open Go SlWood Stv
noncomputable section
def shr (O : FOps) (b : Nat) : Bool := bif decide (b < 2139095040) then O.cmp .leq .f32 b 1065353216 else false
def vI (O : FOps) (Q : Bool) (n : Int) (a b : Nat) (s t : Int) (c : Nat) : Bool :=
  bif decide (6 < n) then false else bif !Q then false else bif (bif O.cmp .geq .f32 a 3262119936 then O.cmp .leq .f32 a 1153138688 else false) then bif shr O b then
  bif decide (0 ≤ s) then bif decide (s ≤ 3) then bif decide (0 ≤ t) then bif decide (t ≤ 1000000) then bif decide (c < 2139095040) then O.cmp .lss .f32 c 1065353216
  else false else false else false else false else false else false else false
def bad (O : FOps) (n : Int) (a b : Nat) (s t : Int) (c : Nat) : Bool :=
  bif decide (6 < n) then true else bif O.cmp .geq .f32 a 3262119936 then bif !O.cmp .leq .f32 a 1153138688 then true else bif !shr O b then true else
  bif !(bif decide (0 ≤ IntKind.i64.wrap s) then decide (IntKind.i64.wrap s ≤ 3) else false) then true else
  bif !(bif decide (0 ≤ t) then decide (t ≤ 1000000) else false) then true else bif !decide (c < 2139095040) then true else O.cmp .geq .f32 c 1065353216 else true
def vS (O : FOps) (Q : Bool) (n : Int) (a b : Nat) (s t : Int) (c : Nat) : Bool := bif bad O n a b s t c then false else bif !Q then false else true
theorem wrap_in {x : Int} (h0 : -9223372036854775808 ≤ x) (h1 : x < 9223372036854775808) : IntKind.i64.wrap x = x := by
  unfold IntKind.wrap
  have hb : IntKind.bits IntKind.i64 = 64 := rfl
  have hs : IntKind.signed IntKind.i64 = true := rfl
  rw [hb, hs]
  by_cases hx : 0 ≤ x
  · have e : x % 2 ^ 64 = x := Int.emod_eq_of_lt hx (by omega)
    rw [e]
    simp; omega
  · have e : x % 2 ^ 64 = x + 18446744073709551616 := by omega
    rw [e]
    simp; omega
theorem geq_lss {c : Nat} (h : c < 2139095040) : fops.cmp .geq .f32 c 1065353216 = !fops.cmp .lss .f32 c 1065353216 := by
  rw [cmp_geq, cmp_lss, nan_small h, nan_small (show 1065353216 < 2139095040 by decide)]
  simp only [Bool.not_false, Bool.true_and]
  by_cases hk : key .f32 c < key .f32 1065353216
  · simp [hk]
  · simp [hk]; omega
theorem v_eq (Q : Bool) (n : Int) (a b : Nat) {s : Int} (hs : -128 ≤ s ∧ s ≤ 127) (t : Int) (c : Nat) : vS fops Q n a b s t c = vI fops Q n a b s t c := by
  unfold vS vI bad
  rw [wrap_in (by omega) (by omega)]
  cases hc : decide (c < 2139095040) with
  | true =>
    rw [geq_lss (of_decide_eq_true hc)]
    cases decide (6 < n) <;> cases Q <;> cases fops.cmp .geq .f32 a 3262119936 <;> cases fops.cmp .leq .f32 a 1153138688 <;> cases shr fops b <;> cases decide (0 ≤ s) <;> cases decide (s ≤ 3) <;> cases decide (0 ≤ t) <;> cases decide (t ≤ 1000000) <;> cases fops.cmp .lss .f32 c 1065353216 <;> rfl
  | false =>
    cases decide (6 < n) <;> cases Q <;> cases fops.cmp .geq .f32 a 3262119936 <;> cases fops.cmp .leq .f32 a 1153138688 <;> cases shr fops b <;> cases decide (0 ≤ s) <;> cases decide (s ≤ 3) <;> cases decide (0 ≤ t) <;> cases decide (t ≤ 1000000) <;> rfl
/-! ### told by hand -/
/-- Whether a stove is valid. -/
def vR (O : FOps) (vl : (Nat → Nat) → Bool) (n : Int) (row : Int → List SC) (a b : Nat) (s t : Int) (c : Nat) : Bool := vI O (eqFrom (qV vl (datF row)) 0 n.toNat) n a b s t c
def vR' (O : FOps) (vl : (Nat → Nat) → Bool) (n : Int) (row : Int → List SC) (a b : Nat) (s t : Int) (c : Nat) : Bool := vS O (eqFrom (qV vl (datF row)) 0 n.toNat) n a b s t c
def okV (n N s : Int) (row : Int → List SC) : Bool := pB (N = n ∧ 0 ≤ n ∧ n ≤ 1048576 ∧ Shape ts row ∧ -128 ≤ s ∧ s ≤ 127)
def stL (f : Bool) (n : Int) (a b : Nat) (s t : Int) (c : Nat) : List SC := [.sl 1 0 18 (.s n) f, .flt .f32 a, .flt .f32 b, .int .i8 (.s s), .int .i64 (.s t), .flt .f32 c]
set_option maxRecDepth 100000 in
theorem vI_run (O : FOps) (vl : (Nat → Nat) → Bool) (f w o : Bool) (n N : Int) (row : Int → List SC) (a b : Nat) (s t : Int) (c : Nat) : roS (inl (cxV O vl) Try.f22 ⟨fun _ => none, lpOf [(4, LI O vl)]⟩) 2 [.a (stL f n a b s t c)] [(1, ⟨w, o, .rows 18 N row⟩)] =
    some ⟨.c (.bool (.s (vR O vl n row a b s t c))), [], 60, gdB (decide (6 < n)) [flatR row, pB (PreI n n 0 N n row)]⟩ := by kernel_rfl
set_option maxRecDepth 100000 in
theorem vS_run (O : FOps) (vl : (Nat → Nat) → Bool) (f w o w' o' : Bool) (n : Int) (row : Int → List SC) (a b : Nat) (s t : Int) (c : Nat) : roS (inl (cxV O vl) Try.f57 ⟨fun _ => none, lpOf [(4, Stv.LS O vl)]⟩) 3 [.c (.ptr 2 0)] [(1, ⟨w, o, .rows 18 n row⟩), (2, ⟨w', o', .cells (stL f n a b s t c)⟩)] =
    some ⟨.c (.bool (.s (vR' O vl n row a b s t c))), [], 60, gdB (bad O n a b s t c) [flatR row, pB (PreS n n 0 n n row)]⟩ := by kernel_rfl
def vIH (O : FOps) (vl : (Nat → Nat) → Bool) : CS := fun base args rd => match args with
  | [.a [.sl i o es (.s n) _, .flt .f32 a, .flt .f32 b, .int .i8 (.s s), .int .i64 (.s t), .flt .f32 c]] => match rd with
    | [(j, ⟨_, _, .rows st N row⟩)] => match Nat.beq base 2 && (Nat.beq i 1 && (Nat.beq o 0 && (Nat.beq es 18 && (Nat.beq j 1 && Nat.beq st 18)))) with
      | true => some ⟨.c (.bool (.s (vR O vl n row a b s t c))), [], 60, [okV n N s row]⟩
      | false => none
    | _ => none
  | _ => none
def vSH (O : FOps) (vl : (Nat → Nat) → Bool) : CS := fun base args rd => match args with
  | [.c (.ptr i' o')] => match rd with
    | [(j, ⟨_, _, .rows st N row⟩), (j', ⟨_, _, .cells [.sl i o es (.s n) _, .flt .f32 a, .flt .f32 b, .int .i8 (.s s), .int .i64 (.s t), .flt .f32 c]⟩)] =>
      match Nat.beq base 3 && (Nat.beq i' 2 && (Nat.beq o' 0 && (Nat.beq j' 2 && (Nat.beq i 1 && (Nat.beq o 0 && (Nat.beq es 18 && (Nat.beq j 1 && Nat.beq st 18))))))) with
      | true => some ⟨.c (.bool (.s (vR O vl n row a b s t c))), [], 60, [okV n N s row]⟩
      | false => none
    | _ => none
  | _ => none
set_option maxRecDepth 100000 in
theorem cI0 : CallOK Try.prog 22 (inl (cxV fops valid) Try.f22 ⟨fun _ => none, lpOf [(4, LI fops valid)]⟩) := by
  have hb : Try.f22.body.isSome = true := by kernel_rfl
  obtain ⟨c, hc⟩ := Option.isSome_iff_exists.1 hb
  have h1 : (match Try.f22.body with | some c => onceB (loopsIn c) && (match loopAt 4 (loopsIn c) with | some _ => true | none => false) | none => false) = true := by kernel_rfl
  rw [hc] at h1
  simp only [Bool.and_eq_true] at h1
  exact inlL_of (l := LV fops valid) (ls := [(4, LI fops valid)]) okLV mixed 8 Try.func22 (by kernel_rfl) (fun _ => none) hc h1.1 ⟨⟨_, bodyOf_at hc h1.2, okI⟩, trivial⟩
set_option maxRecDepth 100000 in
theorem cS0 : CallOK Try.prog 57 (inl (cxV fops valid) Try.f57 ⟨fun _ => none, lpOf [(4, Stv.LS fops valid)]⟩) := by
  have hb : Try.f57.body.isSome = true := by kernel_rfl
  obtain ⟨c, hc⟩ := Option.isSome_iff_exists.1 hb
  have h1 : (match Try.f57.body with | some c => onceB (loopsIn c) && (match loopAt 4 (loopsIn c) with | some _ => true | none => false) | none => false) = true := by kernel_rfl
  rw [hc] at h1
  simp only [Bool.and_eq_true] at h1
  exact inlL_of (l := LV fops valid) (ls := [(4, Stv.LS fops valid)]) okLV mixed 8 Try.func57 (by kernel_rfl) (fun _ => none) hc h1.1 ⟨⟨_, bodyOf_at hc h1.2, okS⟩, trivial⟩
def vIC (O : FOps) (vl : (Nat → Nat) → Bool) : CS := orS (canS (vIH O vl)) (inl (cxV O vl) Try.f22 noH)
def vSC (O : FOps) (vl : (Nat → Nat) → Bool) : CS := orS (canS (vSH O vl)) (inl (cxV O vl) Try.f57 noH)
set_option maxRecDepth 100000 in
theorem cVIC : CallOK Try.prog 22 (vIC fops valid) :=
  (CallOK.hand (H := vIH fops valid) cI0.ro fun b args rd e h hob => by
    unfold vIH at h
    split at h <;> try (cases h; done)
    rename_i i o es n f xa xb s t xc
    split at h <;> try (cases h; done)
    rename_i j w p st N row
    split at h <;> cases h
    rename_i hc
    simp only [Bool.and_eq_true, beqN] at hc
    obtain ⟨rfl, rfl, rfl, rfl, rfl, rfl⟩ := hc
    obtain ⟨rfl, h0, hm, hs, h1, h2⟩ := pB_iff.1 hob.head
    exact ⟨_, vI_run fops valid f w p N N row xa xb s t xc, gdB_ok fun _ => AllT.cons (shape_flat hs) (AllT.cons (pB_iff.2 ⟨rfl, rfl, rfl, rfl, h0, hm, hs⟩) AllT.nil)⟩).can.or
    (inlN_of (l := LV fops valid) okLV mixed 8 Try.func22 (by kernel_rfl) (fun _ => none))
theorem vR_eq (n : Int) (row : Int → List SC) (a b : Nat) {s : Int} (h : -128 ≤ s ∧ s ≤ 127) (t : Int) (c : Nat) : vR' fops valid n row a b s t c = vR fops valid n row a b s t c := v_eq _ n a b h t c
set_option maxRecDepth 100000 in
theorem cVSC : CallOK Try.prog 57 (vSC fops valid) :=
  (CallOK.hand (H := vSH fops valid) cS0.ro fun b args rd e h hob => by
    unfold vSH at h
    split at h <;> try (cases h; done)
    rename_i i' o'
    split at h <;> try (cases h; done)
    rename_i j w p st N row j' w' p' i o es n f xa xb s t xc
    split at h <;> cases h
    rename_i hc
    simp only [Bool.and_eq_true, beqN] at hc
    obtain ⟨rfl, rfl, rfl, rfl, rfl, rfl, rfl, rfl, rfl⟩ := hc
    obtain ⟨rfl, h0, hm, hs, h1, h2⟩ := pB_iff.1 hob.head
    rw [← vR_eq N row xa xb ⟨h1, h2⟩ t xc]
    exact ⟨_, vS_run fops valid f w p w' p' N row xa xb s t xc, gdB_ok fun _ => AllT.cons (shape_flat hs) (AllT.cons (pB_iff.2 ⟨rfl, rfl, rfl, rfl, h0, hm, hs⟩) AllT.nil)⟩).can.or
    (inlN_of (l := LV fops valid) okLV mixed 8 Try.func57 (by kernel_rfl) (fun _ => none))
/-! ### what the laws of stoves ask for -/
def LW (O : FOps) (vl : (Nat → Nat) → Bool) : List (Nat × CS) := [(61, amtS), (66, amtS), (108, absS), (31, gS (sfG O)), (53, toC O), (56, eqC O), (62, maC O), (63, heC O), (22, vIC O vl), (57, vSC O vl)]
set_option maxRecDepth 100000 in
theorem okLW : AllOK Try.prog (LW fops valid) := ⟨cAmtI, cAmtL, cAbs, cSf, cToC, cEqC, cMaC, cHeC, cVIC, cVSC, trivial⟩
def cxW (O : FOps) (vl : (Nat → Nat) → Bool) : Cx := ⟨Try.prog, O, orcN Try.prog O (LW O vl) 8⟩
def hint (l : List (Nat × Bool)) (t : Nat) : Option Bool := List.rec (motive := fun _ => Option Bool) none (fun p _ ih => bif Nat.beq t p.1 then some p.2 else ih) l
def stA (n : Int) (a b : Nat) (s t : Int) (c : Nat) : SV := .a (stL false n a b s t c)
def st0 (a b : Nat) (s t : Int) (c : Nat) : SV := .a [.sl 1 0 18 (.c 0) false, .flt .f32 a, .flt .f32 b, .int .i8 (.s s), .int .i64 (.s t), .flt .f32 c]
def lf (n : Int) : Int := bif decide ((bif decide (IntKind.i64.wrap (1048576 - n) < 0) then (-1 : Int) else IntKind.i64.wrap (1048576 - n)) < 0) then -1 else bif decide (IntKind.i64.wrap (1048576 - n) < 0) then -1 else IntKind.i64.wrap (1048576 - n)
theorem lf_small {n : Int} (h0 : 0 ≤ n) (h1 : n ≤ 1048576) : decide (lf n < 0) = false := by
  unfold lf
  rw [wrap_in (by omega) (by omega)]
  have e : decide (1048576 - n < 0) = false := by simp; omega
  rw [e]
  simp [e]
theorem lf_big {n : Int} (h0 : 1048576 < n) (h1 : n ≤ 9223372036854775807) : decide (lf n < 0) = true := by
  unfold lf
  rw [wrap_in (by omega) (by omega)]
  have e : decide (1048576 - n < 0) = true := by simp; omega
  rw [e]
  simp
def R1 (F : Nat → Int → Nat) (G : Nat → Int → Int) (n : Int) : Int → List SC := cpR n (Row F G)
def oC (F : Nat → Int → Nat) (G : Nat → Int → Int) (n : Int) : List Bool := [flatR (Row F G), flatR (R1 F G n), okN n n (Row F G)]
def oV (n s : Int) (row : Int → List SC) : List Bool := [flatR row, okV n n s row]
def oA (n : Int) : List Bool := [decide (0 ≤ n ∧ n ≤ n ∧ n ≤ 1000000)]
def oE (n : Int) (row row' : Int → List SC) : List Bool := [flatR row', flatR row, okE' n n row n n row']
def oM (O : FOps) (n : Int) (row : Int → List SC) : List Bool := [flatR row, flatR (mkR O 1 n row), okM' n 1 n row]
def oH (O : FOps) (n : Int) (row : Int → List SC) : List Bool := [flatR (mkR O 1 n row), okH' n 1 n (mkR O 1 n row)]
/-- Two stoves are the same; 'q': their logs are. -/
def eqT (O : FOps) (q : Bool) (a b : Nat) (s t : Int) (c : Nat) : Bool :=
  bif !q then false else bif !sf O (O.conv .f32 .f64 a) (O.conv .f32 .f64 a) then false else bif !sf O (O.conv .f32 .f64 b) (O.conv .f32 .f64 b) then false else bif !decide (s = s) then false else bif !decide (t = t) then false else bif !sf O (O.conv .f32 .f64 c) (O.conv .f32 .f64 c) then false else true
theorem eqT_true {q : Bool} (hq : q = true) (a b : Nat) (s t : Int) (c : Nat) : eqT fops q a b s t c = true := by
  unfold eqT
  rw [hq]
  simp [sf_self]
def eqT0 (O : FOps) (x y : Nat) : Bool := bif !sf O (O.conv .f32 .f64 x) (O.conv .f32 .f64 y) then false else bif !sf O (O.conv .f32 .f64 x) (O.conv .f32 .f64 y) then false else bif !sf O (O.conv .f32 .f64 x) (O.conv .f32 .f64 y) then false else true
theorem eqT0_true (x : Nat) : eqT0 fops x x = true := by
  unfold eqT0
  simp [sf_self]
def ng (n : Int) : Bool := decide ((1 : Int) + 18 * n < 0)
def qv (n : Int) : Int := bif ng n then -1 else 1 + 18 * n
/-- What is asked when it is held as it was marked. -/
def oQ (n : Int) : List Bool := [!decide (qv n < 0), !!decide (qv n = 1 + 18 * n)]
theorem ng_false {n : Int} (h : 0 ≤ n) : ng n = false := by unfold ng; simp; omega
theorem oQ_ok {n : Int} (h : 0 ≤ n) : AllT (oQ n) := by
  unfold oQ qv
  rw [ng_false h]
  exact AllT.cons (by simp; omega) (AllT.cons (by simp) AllT.nil)
theorem r1_shape (F : Nat → Int → Nat) (G : Nat → Int → Int) (n : Int) : Shape ts (R1 F G n) := shape_row _ _
theorem oC_ok (F : Nat → Int → Nat) (G : Nat → Int → Int) {n : Int} (h0 : 0 ≤ n) (h1 : n ≤ 1048576) : AllT (oC F G n) :=
  AllT.cons (rowK_flat _ _ _) (AllT.cons (rowK_flat _ _ _) (AllT.cons (pB_iff.2 ⟨rfl, h0, h1, shape_row F G⟩) AllT.nil))
theorem oV_ok {row : Int → List SC} (hs : Shape ts row) {n s : Int} (h0 : 0 ≤ n) (h1 : n ≤ 1048576) (h : -128 ≤ s ∧ s ≤ 127) : AllT (oV n s row) :=
  AllT.cons (shape_flat hs) (AllT.cons (pB_iff.2 ⟨rfl, h0, h1, hs, h⟩) AllT.nil)
theorem oA_ok {n : Int} (h0 : 0 ≤ n) (h1 : n ≤ 6) : AllT (oA n) := AllT.cons (by simp; omega) AllT.nil
theorem oE_ok {row row' : Int → List SC} (hs : Shape ts row) (hs' : Shape ts row') {n : Int} (h0 : 0 ≤ n) (h1 : n ≤ 1048576) : AllT (oE n row row') :=
  AllT.cons (shape_flat hs') (AllT.cons (shape_flat hs) (AllT.cons (by
    unfold okE'
    have : pB (n = n ∧ n = n ∧ 0 ≤ n ∧ n ≤ 1048576 ∧ Shape ts row ∧ Shape ts row') = true := pB_iff.2 ⟨rfl, rfl, h0, h1, hs, hs'⟩
    rw [this, Bool.or_true]) AllT.nil))
theorem mk_shape (u n : Int) (row : Int → List SC) : Shape ts (mkR fops u n row) := shape_row _ _
theorem oM_ok {row : Int → List SC} (hs : Shape ts row) {n : Int} (h0 : 0 ≤ n) (h1 : n ≤ 1048576) : AllT (oM fops n row) :=
  AllT.cons (shape_flat hs) (AllT.cons (shape_flat (mk_shape _ _ _)) (AllT.cons (pB_iff.2 ⟨rfl, h0, h1, by decide, by decide, hs⟩) AllT.nil))
theorem oH_ok (row : Int → List SC) {n : Int} (h0 : 0 ≤ n) (h1 : n ≤ 1048576) : AllT (oH fops n row) :=
  AllT.cons (shape_flat (mk_shape _ _ _)) (AllT.cons (pB_iff.2 ⟨rfl, h0, h1, by decide, by decide, mkR_marked _ _ _⟩) AllT.nil)
theorem AllT.one {b : Bool} (h : b = true) : AllT [b] := AllT.cons h AllT.nil
theorem gdB_ok' {g : Bool} {l : List Bool} (h : AllT l) : AllT (gdB g l) := gdB_ok fun _ => h
/-- A valid stove has six logs at the most. -/
theorem vR_six {O : FOps} {vl : (Nat → Nat) → Bool} {n : Int} {row : Int → List SC} {a b : Nat} {s t : Int} {c : Nat} (h : vR O vl n row a b s t c = true) : n ≤ 6 := by
  unfold vR vI at h
  cases h6 : decide (6 < n) with
  | true => rw [h6] at h; cases h
  | false =>
    have := of_decide_eq_false h6
    omega
/-! ### a law whose answer is a stove -/
theorem AllT.iff_app {l m : List Bool} : AllT (l ++ m) ↔ AllT l ∧ AllT m := ⟨fun h => h.append, fun h => AllT.app h.1 h.2⟩
def obG (O : FOps) (F : Nat → Int → Nat) (G : Nat → Int → Int) (n : Int) (Ss Si : List Bool) (n2 : Int) (Ri Rs : Int → List SC) (T E : Bool) : List Bool :=
  [!decide (lf n < 0)] ++ (oC F G n ++ Ss) ++ (oC F G n ++ Si) ++ oE n2 Ri Rs ++ [!T] ++ oC F G n ++ oE n (R1 F G n) (R1 F G n) ++ [!!E] ++ oM O n (R1 F G n) ++ gdB (ng n) (oE n2 Ri Rs) ++ [!(bif ng n then true else T)] ++
  oM O n2 Ri ++ oH O n2 Ri ++ oQ n2 ++ (oC F G n ++ Si) ++ oE n2 Ri Rs ++ [!T] ++ oH O n2 Ri ++ oQ n2
def obGe (O : FOps) (F : Nat → Int → Nat) (G : Nat → Int → Int) (n : Int) (Ss Si : List Bool) (T E : Bool) : List Bool :=
  [!decide (lf n < 0)] ++ (oC F G n ++ Ss) ++ (oC F G n ++ Si) ++ [!T] ++ oC F G n ++ oE n (R1 F G n) (R1 F G n) ++ [!!E] ++ oM O n (R1 F G n) ++ [!(bif ng n then true else T)] ++ (oC F G n ++ Si) ++ [!T]
def ob0 (Ss Si : List Bool) (T E : Bool) : List Bool := Ss ++ Si ++ [!T, !!E, !T] ++ Si ++ [!T]
theorem obG_ok (F : Nat → Int → Nat) (G : Nat → Int → Int) {n : Int} (h0 : 0 ≤ n) (h1 : n ≤ 1048576) {Ss Si : List Bool} (hs : AllT Ss) (hi : AllT Si) {n2 : Int} (k0 : 0 ≤ n2) (k1 : n2 ≤ 1048576) {Ri Rs : Int → List SC} (hri : Shape ts Ri) (hrs : Shape ts Rs) {T E : Bool} (hT : T = false) (hE : E = true) :
    AllT (obG fops F G n Ss Si n2 Ri Rs T E) := by
  have c := oC_ok F G h0 h1
  have e := oE_ok hri hrs k0 k1
  have x := oE_ok (r1_shape F G n) (r1_shape F G n) h0 h1
  have m := oM_ok (r1_shape F G n) h0 h1
  have m2 := oM_ok hri k0 k1
  have y := oH_ok Ri k0 k1
  have z := oQ_ok k0
  unfold obG
  rw [hT, hE, lf_small h0 h1, ng_false h0]
  simp only [AllT.iff_app]
  exact ⟨⟨⟨⟨⟨⟨⟨⟨⟨⟨⟨⟨⟨⟨⟨⟨⟨⟨AllT.one rfl, c, hs⟩, c, hi⟩, e⟩, AllT.one rfl⟩, c⟩, x⟩, AllT.one rfl⟩, m⟩, gdB_ok' e⟩, AllT.one rfl⟩, m2⟩, y⟩, z⟩, c, hi⟩, e⟩, AllT.one rfl⟩, y⟩, z⟩
theorem obGe_ok (F : Nat → Int → Nat) (G : Nat → Int → Int) {n : Int} (h0 : 0 ≤ n) (h1 : n ≤ 1048576) {Ss Si : List Bool} (hs : AllT Ss) (hi : AllT Si) {T E : Bool} (hT : T = false) (hE : E = true) : AllT (obGe fops F G n Ss Si T E) := by
  have c := oC_ok F G h0 h1
  have x := oE_ok (r1_shape F G n) (r1_shape F G n) h0 h1
  have m := oM_ok (r1_shape F G n) h0 h1
  unfold obGe
  rw [hT, hE, lf_small h0 h1, ng_false h0]
  simp only [AllT.iff_app]
  exact ⟨⟨⟨⟨⟨⟨⟨⟨⟨⟨AllT.one rfl, c, hs⟩, c, hi⟩, AllT.one rfl⟩, c⟩, x⟩, AllT.one rfl⟩, m⟩, AllT.one rfl⟩, c, hi⟩, AllT.one rfl⟩
theorem ob0_ok {Ss Si : List Bool} (hs : AllT Ss) (hi : AllT Si) {T E : Bool} (hT : T = false) (hE : E = true) : AllT (ob0 Ss Si T E) := by
  unfold ob0
  rw [hT, hE]
  simp only [AllT.iff_app]
  exact ⟨⟨⟨⟨hs, hi⟩, AllT.cons rfl (AllT.cons rfl (AllT.cons rfl AllT.nil))⟩, hi⟩, AllT.one rfl⟩
theorem gd1 {g b : Bool} (h : g = false → b = true) : AllT (gdB g [b]) := gdB_ok fun e => AllT.one (h e)
theorem nn {b : Bool} (h : b = true) : (!!b) = true := by rw [h]; rfl
theorem eqT_q (n : Int) (row : Int → List SC) (a b : Nat) (s t : Int) (c : Nat) : eqT fops (eqR fops n n row row) a b s t c = true := eqT_true (eqR_self n row) a b s t c
/-- Both say the same of a stove without logs. -/
theorem v0_eq (a b : Nat) {s : Int} (h : -128 ≤ s ∧ s ≤ 127) (t : Int) (c : Nat) : vS fops true 0 a b s t c = vI fops true 0 a b s t c := v_eq true 0 a b h t c
/-! ### the same, where the rows of the answer are told of more generally -/
def oE2 (n N M : Int) (row row' : Int → List SC) : List Bool := [flatR row', flatR row, okE' n N row n M row']
def oM2 (O : FOps) (n N : Int) (row : Int → List SC) : List Bool := [flatR row, flatR (mkR O 1 n row), okM' n 1 N row]
def obH (O : FOps) (F : Nat → Int → Nat) (G : Nat → Int → Int) (n : Int) (Ss Si : List Bool) (n2 Ni Ns : Int) (Ri Rs : Int → List SC) (T E : Bool) : List Bool :=
  [!decide (lf n < 0)] ++ (oC F G n ++ Ss) ++ (oC F G n ++ Si) ++ oE2 n2 Ni Ns Ri Rs ++ [!T] ++ oC F G n ++ oE n (R1 F G n) (R1 F G n) ++ [!!E] ++ oM O n (R1 F G n) ++ gdB (ng n) (oE2 n2 Ni Ns Ri Rs) ++ [!(bif ng n then true else T)] ++
  oM2 O n2 Ni Ri ++ oH O n2 Ri ++ oQ n2 ++ (oC F G n ++ Si) ++ oE2 n2 Ni Ns Ri Rs ++ [!T] ++ oH O n2 Ri ++ oQ n2
theorem oE2_ok {row row' : Int → List SC} (hs : Shape ts row) (hs' : Shape ts row') {n N M : Int} (h0 : 0 ≤ n) (h1 : n ≤ 1048576) (hN : N = n) (hM : M = n) : AllT (oE2 n N M row row') := by
  subst hN
  subst hM
  exact oE_ok hs hs' h0 h1
theorem obH_ok (F : Nat → Int → Nat) (G : Nat → Int → Int) {n : Int} (h0 : 0 ≤ n) (h1 : n ≤ 1048576) {Ss Si : List Bool} (hs : AllT Ss) (hi : AllT Si) {n2 Ni Ns : Int} (k0 : 0 ≤ n2) (k1 : n2 ≤ 1048576) (hNi : Ni = n2) (hNs : Ns = n2) {Ri Rs : Int → List SC} (hri : Shape ts Ri) (hrs : Shape ts Rs) {T E : Bool} (hT : T = false) (hE : E = true) :
    AllT (obH fops F G n Ss Si n2 Ni Ns Ri Rs T E) := by
  subst hNi
  subst hNs
  exact obG_ok F G h0 h1 hs hi k0 k1 hri hrs hT hE
end
end Go.Proofs.Ytngdmcbjponlhaa.Sto
end

/- The layers that burn: impl.burning. Nothing is assumed. -/
section
namespace Go.Proofs.Ytngdmcbjponlhaa.Brn
open Go
noncomputable section
noncomputable def hint (l : List (Nat × Bool)) (t : Nat) : Option Bool := List.rec (motive := fun _ => Option Bool) none (fun p _ ih => bif Nat.beq t p.1 then some p.2 else ih) l
noncomputable def C18 : List KC := [.flt .f32, .flt .f32, .flt .f32, .flt .f32, .flt .f32, .flt .f32, .flt .f32, .flt .f32, .flt .f32, .flt .f32, .flt .f32, .flt .f32, .flt .f32, .flt .f32, .flt .f32, .flt .f32, .flt .f32, .flt .f32]
noncomputable def w18 (w : Nat → Nat) : List LD := [.f (w 0), .f (w 1), .f (w 2), .f (w 3), .f (w 4), .f (w 5), .f (w 6), .f (w 7), .f (w 8), .f (w 9), .f (w 10), .f (w 11), .f (w 12), .f (w 13), .f (w 14), .f (w 15), .f (w 16), .f (w 17)]
noncomputable def tk18 : List LD → Option ((Nat → Nat) × List LD)
  | .f a0 :: .f a1 :: .f a2 :: .f a3 :: .f a4 :: .f a5 :: .f a6 :: .f a7 :: .f a8 :: .f a9 :: .f a10 :: .f a11 :: .f a12 :: .f a13 :: .f a14 :: .f a15 :: .f a16 :: .f a17 :: p => some (fun i => [a0, a1, a2, a3, a4, a5, a6, a7, a8, a9, a10, a11, a12, a13, a14, a15, a16, a17].getD i 0, p)
  | _ => none
theorem tk18_ok {p q : List LD} {w : Nat → Nat} (h : tk18 p = some (w, q)) : p = w18 w ++ q ∧ back w = w := by
  unfold tk18 at h
  split at h <;> cases h
  exact ⟨rfl, rfl⟩
/-- A cell of a log, by its place from 'o' on. -/
noncomputable def sel (w : Nat → Nat) (o : Nat) (k : Int) : Nat := match selRow (wdL w) o 1 1 k 6 0 with
  | some [.flt _ x] => x
  | _ => 0
noncomputable def c1 (O : FOps) (w : Nat → Nat) (k : Int) : Bool := O.cmp .gtr .f32 (sel w 6 k) 1132068864
noncomputable def c2 (O : FOps) (w : Nat → Nat) (k : Int) : Bool := O.cmp .lss .f32 (sel w 0 k) 1040187392
noncomputable def c3 (O : FOps) (w : Nat → Nat) (k : Int) : Bool := O.cmp .gtr .f32 (sel w 12 k) 0
/-- A layer burns. -/
noncomputable def cW (O : FOps) (w : Nat → Nat) (k : Int) : Bool := bif c1 O w k then (bif c2 O w k then c3 O w k else false) else false
noncomputable def ap (row : Int → List SC) (n k : Int) (j : Int) : List SC := bif decide (j < n) then row j else [.int .i64 (.s k)]
noncomputable def bu (O : FOps) (w : Nat → Nat) : Nat → Int → Int → (Int → List SC) → Int × (Int → List SC)
  | 0, _, n, row => (n, row)
  | m + 1, k, n, row => bif cW O w k then bu O w m (k + 1) (n + 1) (ap row n k) else bu O w m (k + 1) n row
theorem flat_ap {row : Int → List SC} (h : flatR row = true) (n k : Int) : flatR (ap row n k) = true :=
  @decide_eq_true _ (Classical.propDecidable _) fun j => by
    unfold ap
    cases decide (j < n) with
    | true => exact flatR_ok h j
    | false => rfl
theorem flat_bu (O : FOps) (w : Nat → Nat) : ∀ (m : Nat) (k n : Int) (row : Int → List SC), flatR row = true → flatR (bu O w m k n row).2 = true
  | 0, _, _, _, h => h
  | m + 1, k, n, row, h => by
    show flatR (bif cW O w k then bu O w m (k + 1) (n + 1) (ap row n k) else bu O w m (k + 1) n row).2 = true
    cases cW O w k with
    | true => exact flat_bu O w m _ _ _ (flat_ap h n k)
    | false => exact flat_bu O w m _ _ _ h
noncomputable def b6 (k : Int) : Bool := decide (0 ≤ k ∧ k < ((6 : Nat) : Int))
noncomputable def idB (O : FOps) (w : Nat → Nat) (k : Int) : List Bool := [decide (k < 6), b6 k] ++ gdB (!c1 O w k) [b6 k] ++ gdB (!c1 O w k) (gdB (!c2 O w k) [b6 k])
theorem idB_ok (O : FOps) (w : Nat → Nat) {k : Int} (h0 : 0 ≤ k) (h1 : k < 6) : AllT (idB O w k) := by
  have b : b6 k = true := by unfold b6; simp; omega
  exact AllT.app (AllT.app (AllT.cons (by simpa using h1) (AllT.cons b AllT.nil)) (gdB_ok fun _ => AllT.cons b AllT.nil)) (gdB_ok fun _ => gdB_ok fun _ => AllT.cons b AllT.nil)
noncomputable def sk : Sk := ⟨[(1, .c (.ptr 1 0)), (3, .c (.sl 3 0 1 true)), (6, .c (.int .i64))], [(1, ⟨true, true, .cells C18⟩), (3, ⟨true, true, .rows 1⟩)], 4⟩
noncomputable def skE : Sk := ⟨[(3, .c (.sl 3 0 1 true))], [(3, ⟨true, true, .rows 1⟩)], 4⟩
noncomputable def cx (O : FOps) : Cx := ⟨Try.prog, O, orcN Try.prog O [] 8⟩
noncomputable def NB : Nat := Try.f86.ntmps
noncomputable def dB (n k : Int) (w : Nat → Nat) (N : Int) (row : Int → List SC) : List LD := [.i n, .i k] ++ (w18 w ++ [.i N, .r row])
noncomputable def go (O : FOps) (h : List (Nat × Bool)) (ρ : List (Nat × Nat)) (s : Sk) (w : Nat → Nat) (n k N : Int) (row : Int → List SC) : Option (Option XK × List LD × List Bool) :=
  goL (cx O) NB ⟨hint h, fun _ => none⟩ (bodyOf Try.f86 3) 3 60 sk ρ s (dB n k w N row)
noncomputable def hN : List (Nat × Bool) := [(7, true), (27, false)]
noncomputable def hY : List (Nat × Bool) := [(7, true), (27, true)]
noncomputable def hE : List (Nat × Bool) := [(7, false)]
set_option maxRecDepth 100000 in
theorem roN (O : FOps) (w : Nat → Nat) (n k N : Int) (row : Int → List SC) : go O hN [] sk w n k N row = some (none, dB n (IntKind.i64.wrap (k + 1)) w N row, idB O w k ++ [!cW O w k, flatR row]) := by kernel_rfl
set_option maxRecDepth 100000 in
theorem roY (O : FOps) (w : Nat → Nat) (n k N : Int) (row : Int → List SC) : go O hY [(5, 3)] sk w n k N row = some (none, dB (n + 1) (IntKind.i64.wrap (k + 1)) w (n + 1) (ap row n k), idB O w k ++ [cW O w k, decide (0 ≤ n ∧ n ≤ N ∧ n ≤ 999999), flatR (ap row n k)]) := by kernel_rfl
set_option maxRecDepth 100000 in
theorem roE (O : FOps) (w : Nat → Nat) (n k N : Int) (row : Int → List SC) : go O hE [] skE w n k N row = some (some (.exit 0), [.i n, .i N, .r row], [!decide (k < 6), flatR row]) := by kernel_rfl
theorem lo (w : Nat → Nat) : ∀ (m : Nat) (k n : Int) (row : Int → List SC), 0 ≤ k → k + m = 6 → 0 ≤ n → n ≤ k → flatR row = true →
    Loops (cx fops) NB (fun _ => none) (bodyOf Try.f86 3) 3 60 sk (dB n k w n row) (.exit 0) skE [.i (bu fops w m k n row).1, .i (bu fops w m k n row).1, .r (bu fops w m k n row).2] := by
  intro m
  induction m with
  | zero =>
    intro k n row hk hkm hn hnk hf
    have e : k = 6 := by omega
    subst e
    exact .done (ts := hint hE) (ρ := []) (roE fops w n 6 n row) (AllT.cons (by decide) (AllT.cons hf AllT.nil))
  | succ m ih =>
    intro k n row hk hkm hn hnk hf
    have hi := idB_ok fops w hk (by omega)
    have hE' : bu fops w (m + 1) k n row = bif cW fops w k then bu fops w m (k + 1) (n + 1) (ap row n k) else bu fops w m (k + 1) n row := rfl
    rw [hE']
    cases hc : cW fops w k with
    | true =>
      have h1 := roY fops w n k n row
      rw [wrap_succ hk (by omega)] at h1
      exact .step (ts := hint hY) (ρ := [(5, 3)]) h1 (AllT.app hi (AllT.cons hc (AllT.cons (by simp; omega) (AllT.cons (flat_ap hf n k) AllT.nil)))) (ih (k + 1) (n + 1) _ (by omega) (by omega) (by omega) (by omega) (flat_ap hf n k))
    | false =>
      have h1 := roN fops w n k n row
      rw [wrap_succ hk (by omega)] at h1
      exact .step (ts := hint hN) (ρ := []) h1 (AllT.app hi (AllT.cons (by rw [hc]; rfl) (AllT.cons hf AllT.nil))) (ih (k + 1) n row (by omega) (by omega) hn (by omega) hf)
def PreB (n k N : Int) (row : Int → List SC) : Prop := n = 0 ∧ k = 0 ∧ N = 0 ∧ flatR row = true
noncomputable def FB (O : FOps) : List LD → Option (XO × List Bool)
  | .i n :: .i k :: p => bindO (tk18 p) fun q => match q.2 with
    | [.i N, .r row] => some ([(.t, .exit 0, skE, [.i (bu O q.1 6 0 0 row).1, .i (bu O q.1 6 0 0 row).1, .r (bu O q.1 6 0 0 row).2])], [pB (PreB n k N row)])
    | _ => none
  | _ => none
noncomputable def LB (O : FOps) : List Ly → Top → Option Outs := orIter (cx O) NB (bodyOf Try.f86 3) (loopL NB 3 60 sk [(2, 3)] (FB O))
set_option maxRecDepth 100000 in
theorem okB : CodeOK Try.prog NB (.loop (bodyOf Try.f86 3)) (LB fops) := by
  refine orIter_ok (l := []) trivial mixed 8 (loopL_ok (cx := cx fops) (lp := fun _ => none) (fun ts => body_ok (l := []) trivial mixed 8 _ ts) fun p r hr hob => ?_)
  unfold FB at hr
  split at hr <;> try (cases hr; done)
  rename_i n k p
  obtain ⟨⟨w, p1⟩, hq, hr2⟩ := bindO_some hr
  clear hr
  obtain ⟨rfl, hw⟩ := tk18_ok hq
  clear hq
  split at hr2 <;> try (cases hr2; done)
  rename_i N row hp1
  replace hp1 : p1 = [.i N, .r row] := hp1
  subst hp1
  cases hr2
  obtain ⟨e1, e2, e3, hf⟩ := pB_iff.1 hob.head
  rw [e1, e2, e3]
  exact ⟨.exit 0, skE, _, rfl, lo w 6 0 0 row (Int.le_refl _) (by omega) (Int.le_refl _) (Int.le_refl _) hf⟩
set_option maxRecDepth 100000 in
theorem cB0 : CallOK Try.prog 86 (inl (cx fops) Try.f86 ⟨fun _ => none, lpOf [(3, LB fops)]⟩) := by
  have hb : Try.f86.body.isSome = true := by kernel_rfl
  obtain ⟨c, hc⟩ := Option.isSome_iff_exists.1 hb
  have h1 : (match Try.f86.body with | some c => onceB (loopsIn c) && (match loopAt 3 (loopsIn c) with | some _ => true | none => false) | none => false) = true := by kernel_rfl
  rw [hc] at h1
  simp only [Bool.and_eq_true] at h1
  exact inlL_of (l := []) (ls := [(3, LB fops)]) trivial mixed 8 Try.func86 (by kernel_rfl) (fun _ => none) hc h1.1 ⟨⟨_, bodyOf_at hc h1.2, okB⟩, trivial⟩
/-- How many layers burn, and which. -/
noncomputable def cnt (O : FOps) (w : Nat → Nat) : Int := (bu O w 6 0 0 fun _ => []).1
noncomputable def lst (O : FOps) (w : Nat → Nat) : Int → List SC := (bu O w 6 0 0 fun _ => []).2
set_option maxRecDepth 100000 in
theorem b_run (O : FOps) (w : Nat → Nat) : inl (cx O) Try.f86 ⟨fun _ => none, lpOf [(3, LB O)]⟩ 1 [wd w] [] =
    some ⟨.c (.sl 3 0 1 (.s (cnt O (back w))) true), [(3, some ⟨true, true, .rows 1 (cnt O (back w)) (lst O (back w))⟩)], 60, [pB (PreB 0 0 0 fun _ => [])]⟩ := by kernel_rfl
theorem flat_nil : flatR (fun _ => []) = true := @decide_eq_true _ (Classical.propDecidable _) fun _ => rfl
noncomputable def bH (O : FOps) : CS := fun base args rd => match args with
  | [v] => match rd with
    | [] => match Nat.beq base 1 with
      | true => match wdOf v with
        | some w => some ⟨.c (.sl 3 0 1 (.s (cnt O w)) true), [(3, some ⟨true, true, .rows 1 (cnt O w) (lst O w)⟩)], 60, []⟩
        | none => none
      | false => none
    | _ :: _ => none
  | _ => none
theorem wdOf_back' {v : SV} {w : Nat → Nat} (h : wdOf v = some w) : back w = w := by
  unfold wdOf at h
  split at h <;> try (cases h; done)
  split at h <;> try (cases h; done)
  rename_i xs hx
  split at h <;> cases h
  rename_i hl
  match xs, beqN.1 hl with
  | [a0, a1, a2, a3, a4, a5, a6, a7, a8, a9, a10, a11, a12, a13, a14, a15, a16, a17], _ => rfl
noncomputable def bC (O : FOps) : CS := canS (bH O)
set_option maxRecDepth 100000 in
theorem cB : CallOK Try.prog 86 (bC fops) := (CallOK.hand (H := bH fops) cB0 fun b args rd e h hob => by
    unfold bH at h
    split at h <;> try (cases h; done)
    split at h <;> try (cases h; done)
    split at h <;> try (cases h; done)
    rename_i hb
    rw [beqN] at hb
    subst hb
    split at h <;> cases h
    rename_i w hw
    have h1 := b_run fops w
    rw [wdOf_back' hw] at h1
    rw [wdOf_ok hw]
    exact ⟨_, h1, AllT.cons (pB_iff.2 ⟨rfl, rfl, rfl, flat_nil⟩) AllT.nil⟩).can
theorem flat_lst (O : FOps) (w : Nat → Nat) : flatR (lst O w) = true := flat_bu O w 6 0 0 _ flat_nil
/-! ### whether any layer burns -/
noncomputable def anyF (O : FOps) (w : Nat → Nat) : Nat → Int → Bool
  | 0, _ => false
  | m + 1, k => bif cW O w k then true else anyF O w m (k + 1)
theorem bu_pos (O : FOps) (w : Nat → Nat) : ∀ (m : Nat) (k n : Int) (row : Int → List SC), 0 ≤ n → decide (0 < (bu O w m k n row).1) = (bif decide (0 < n) then true else anyF O w m k)
  | 0, k, n, row, h => by
    show decide (0 < n) = bif decide (0 < n) then true else false
    cases decide (0 < n) <;> rfl
  | m + 1, k, n, row, h => by
    show decide (0 < (bif cW O w k then bu O w m (k + 1) (n + 1) (ap row n k) else bu O w m (k + 1) n row).1) = (bif decide (0 < n) then true else bif cW O w k then true else anyF O w m (k + 1))
    cases cW O w k with
    | true =>
      rw [cond_true, bu_pos O w m _ _ _ (by omega), decide_eq_true (by omega : 0 < n + 1)]
      cases decide (0 < n) <;> rfl
    | false =>
      rw [cond_false, bu_pos O w m _ _ _ h]
      rfl
theorem bu_nn (O : FOps) (w : Nat → Nat) : ∀ (m : Nat) (k n : Int) (row : Int → List SC), 0 ≤ n → 0 ≤ (bu O w m k n row).1 ∧ (bu O w m k n row).1 ≤ n + m
  | 0, k, n, row, h => ⟨h, by show n ≤ n + 0; omega⟩
  | m + 1, k, n, row, h => by
    show 0 ≤ (bif cW O w k then bu O w m (k + 1) (n + 1) (ap row n k) else bu O w m (k + 1) n row).1 ∧ (bif cW O w k then bu O w m (k + 1) (n + 1) (ap row n k) else bu O w m (k + 1) n row).1 ≤ n + ((m + 1 : Nat) : Int)
    cases cW O w k with
    | true =>
      have := bu_nn O w m (k + 1) (n + 1) (ap row n k) (by omega)
      rw [cond_true]; omega
    | false =>
      have := bu_nn O w m (k + 1) n row h
      rw [cond_false]; omega
theorem cnt_pos (O : FOps) (w : Nat → Nat) : decide (0 < cnt O w) = anyF O w 6 0 := (bu_pos O w 6 0 0 _ (Int.le_refl _)).trans rfl
theorem cnt_nn (O : FOps) (w : Nat → Nat) : 0 ≤ cnt O w ∧ cnt O w ≤ 6 := by
  have := bu_nn O w 6 0 0 (fun _ => []) (Int.le_refl _)
  unfold cnt; omega
end
end Go.Proofs.Ytngdmcbjponlhaa.Brn
end

/- Whether a stove is alight, with any number of logs. Nothing is assumed. -/
section
namespace Go.Proofs.Ytngdmcbjponlhaa.Aly
open Go SlWood Stv Sto
noncomputable section
noncomputable def LA (O : FOps) : List (Nat × CS) := [(86, Brn.bC O)]
set_option maxRecDepth 100000 in
theorem okLA : AllOK Try.prog (LA fops) := ⟨Brn.cB, trivial⟩
noncomputable def cxA (O : FOps) : Cx := ⟨Try.prog, O, orcN Try.prog O (LA O) 8⟩
noncomputable def dA (n m : Int) (a b : Nat) (s t : Int) (c : Nat) (row : Int → List SC) : List LD := [.i n, .r row, .i m, .f a, .f b, .i s, .i t, .f c]
noncomputable def bnd (n k : Int) : Bool := decide (0 ≤ k ∧ k < n)
theorem bnd_ok {n k : Int} (h0 : 0 ≤ k) (h1 : k < n) : bnd n k = true := by unfold bnd; simp; omega
/-- Whether a layer of a log burns. -/
noncomputable def brB (O : FOps) (F : Nat → Int → Nat) (k : Int) : Bool := Brn.anyF O (at18 F k) 6 0
noncomputable def nb (O : FOps) (F : Nat → Int → Nat) (k : Int) : Bool := !brB O F k
noncomputable def skR : Sk := ⟨[(2, .c (.boolc true))], [], 3⟩
noncomputable def skE : Sk := ⟨[], [], 3⟩
/-! ### impl.anyBurns -/
noncomputable def skA : Sk := ⟨[(1, .c (.ptr 2 0)), (6, .c (.sl 1 0 18 false)), (7, .c (.int .i64)), (8, .c (.int .i64))], sgsI, 3⟩
noncomputable def NA : Nat := Try.f65.ntmps
noncomputable def goA (O : FOps) (h : List (Nat × Bool)) (s : Sk) (F : Nat → Int → Nat) (G : Nat → Int → Int) (n k : Int) (a b : Nat) (u t : Int) (c : Nat) : Option (Option XK × List LD × List Bool) :=
  goL (cxA O) NA ⟨hint h, fun _ => none⟩ (bodyOf Try.f65 2) 3 200 skA [] s ([.i n, .i n, .i k] ++ dA n n a b u t c (Row F G))
noncomputable def hAn : List (Nat × Bool) := [(9, true), (15, false)]
noncomputable def hAy : List (Nat × Bool) := [(9, true), (15, true)]
noncomputable def hAe : List (Nat × Bool) := [(9, false)]
noncomputable def idA (O : FOps) (F : Nat → Int → Nat) (n k : Int) : List Bool := [decide (k < n), bnd n k, bnd n k, flatR (Brn.lst O (at18 F k))]
noncomputable def tA (O : FOps) (F : Nat → Int → Nat) (k : Int) : Bool := decide (0 < Brn.cnt O (at18 F k))
theorem tA_eq (O : FOps) (F : Nat → Int → Nat) (k : Int) : tA O F k = brB O F k := Brn.cnt_pos O _
theorem idA_ok (O : FOps) (F : Nat → Int → Nat) {n k : Int} (h0 : 0 ≤ k) (h1 : k < n) : AllT (idA O F n k) :=
  AllT.cons (by simpa using h1) (AllT.cons (bnd_ok h0 h1) (AllT.cons (bnd_ok h0 h1) (AllT.one (Brn.flat_lst O _))))
set_option maxRecDepth 100000 in
theorem rnA (O : FOps) (F : Nat → Int → Nat) (G : Nat → Int → Int) (n k : Int) (a b : Nat) (u t : Int) (c : Nat) : goA O hAn skA F G n k a b u t c =
    some (none, [.i n, .i n, .i (IntKind.i64.wrap (k + 1))] ++ dA n n a b u t c (Row F G), idA O F n k ++ [!tA O F k, flatR (Row F G)]) := by kernel_rfl
set_option maxRecDepth 100000 in
theorem ryA (O : FOps) (F : Nat → Int → Nat) (G : Nat → Int → Int) (n k : Int) (a b : Nat) (u t : Int) (c : Nat) : goA O hAy skR F G n k a b u t c = some (some .ret, [], idA O F n k ++ [tA O F k]) := by kernel_rfl
set_option maxRecDepth 100000 in
theorem reA (O : FOps) (F : Nat → Int → Nat) (G : Nat → Int → Int) (n k : Int) (a b : Nat) (u t : Int) (c : Nat) : goA O hAe skE F G n k a b u t c = some (some (.exit 0), [], [!decide (k < n)]) := by kernel_rfl
theorem loA (F : Nat → Int → Nat) (G : Nat → Int → Int) (n : Int) (hn : n ≤ 1048576) (a b : Nat) (u t : Int) (c : Nat) : ∀ (m : Nat) (k : Int), 0 ≤ k → k + m = n →
    (eqFrom (nb fops F) k m = true → Loops (cxA fops) NA (fun _ => none) (bodyOf Try.f65 2) 3 200 skA ([.i n, .i n, .i k] ++ dA n n a b u t c (Row F G)) (.exit 0) skE []) ∧
    (eqFrom (nb fops F) k m = false → Loops (cxA fops) NA (fun _ => none) (bodyOf Try.f65 2) 3 200 skA ([.i n, .i n, .i k] ++ dA n n a b u t c (Row F G)) .ret skR []) := by
  have fl : flatR (Row F G) = true := rowK_flat _ _ _
  intro m
  induction m with
  | zero =>
    intro k hk hkn
    have e : k = n := by omega
    subst e
    refine ⟨fun _ => .done (ts := hint hAe) (ρ := []) (reA fops F G k k a b u t c) (AllT.one (by simp)), fun h => by cases h⟩
  | succ m ih =>
    intro k hk hkn
    have hlt : k < n := by omega
    obtain ⟨i1, i2⟩ := ih (k + 1) (by omega) (by omega)
    have hE : eqFrom (nb fops F) k (m + 1) = bif nb fops F k then eqFrom (nb fops F) (k + 1) m else false := rfl
    have hi := idA_ok fops F hk hlt
    rw [hE]
    cases hq : brB fops F k with
    | false =>
      have hn' : nb fops F k = true := by unfold nb; rw [hq]; rfl
      have h1 := rnA fops F G n k a b u t c
      rw [wrap_succ hk (by omega)] at h1
      have ho : AllT (idA fops F n k ++ [!tA fops F k, flatR (Row F G)]) := AllT.app hi (AllT.cons (by rw [tA_eq, hq]; rfl) (AllT.one fl))
      rw [hn']
      exact ⟨fun h => .step (ts := hint hAn) (ρ := []) h1 ho (i1 h), fun h => .step (ts := hint hAn) (ρ := []) h1 ho (i2 h)⟩
    | true =>
      have hn' : nb fops F k = false := by unfold nb; rw [hq]; rfl
      rw [hn']
      refine ⟨fun h => (by cases h), fun _ => .done (ts := hint hAy) (ρ := []) (ryA fops F G n k a b u t c) (AllT.app hi (AllT.one (by rw [tA_eq, hq])))⟩
def PA (n n1 k N m : Int) (row : Int → List SC) : Prop := n1 = n ∧ k = 0 ∧ N = n ∧ m = n ∧ 0 ≤ n ∧ n ≤ 1048576 ∧ Shape ts row
noncomputable def FA (O : FOps) : List LD → Option (XO × List Bool)
  | [.i n, .i n1, .i k, .i N, .r row, .i m, .f _, .f _, .i _, .i _, .f _] => some ([(.s (!eqFrom (nb O (datF row)) 0 n.toNat), .ret, skR, []), (.t, .exit 0, skE, [])], [pB (PA n n1 k N m row)])
  | _ => none
noncomputable def LAl (O : FOps) : List Ly → Top → Option Outs := orIter (cxA O) NA (bodyOf Try.f65 2) (loopL NA 3 200 skA [] (FA O))
set_option maxRecDepth 100000 in
theorem okA : CodeOK Try.prog NA (.loop (bodyOf Try.f65 2)) (LAl fops) := by
  refine orIter_ok (l := LA fops) okLA mixed 8 (loopL_ok (cx := cxA fops) (lp := fun _ => none) (fun ts => body_ok (l := LA fops) okLA mixed 8 _ ts) fun p r hr hob => ?_)
  unfold FA at hr
  split at hr <;> cases hr
  rename_i n n1 k N row m a b u t c
  obtain ⟨e1, e2, e3, e4, h0, hm, hs⟩ := pB_iff.1 hob.head
  obtain ⟨h1, h2⟩ := loA (datF row) (datG row) n hm a b u t c n.toNat 0 (Int.le_refl _) (by omega)
  have hs1 : Row (datF row) (datG row) = row := hs.symm
  rw [hs1] at h1 h2
  rw [e1, e2, e3, e4]
  cases hq : eqFrom (nb fops (datF row)) 0 n.toNat with
  | true => exact ⟨.exit 0, skE, [], by simp [pickX, SB.val], h1 hq⟩
  | false => exact ⟨.ret, skR, [], by simp [pickX, SB.val], h2 hq⟩
/-! ### spec.l02Burns -/
noncomputable def hL (O : FOps) (F : Nat → Int → Nat) (k : Int) (i : Nat) : Bool := O.cmp .gtr .f32 (F (6 + i) k) 1132068864
noncomputable def lL (O : FOps) (F : Nat → Int → Nat) (k : Int) (i : Nat) : Bool := O.cmp .lss .f32 (F i k) 1040187392
noncomputable def cL (O : FOps) (F : Nat → Int → Nat) (k : Int) (i : Nat) : Bool := bif hL O F k i then (bif lL O F k i then O.cmp .gtr .f32 (F (12 + i) k) 0 else false) else false
noncomputable def lay (O : FOps) (F : Nat → Int → Nat) (n k : Int) (i : Nat) : List Bool := [bnd n k] ++ gdB (!hL O F k i) [bnd n k] ++ gdB (!hL O F k i) (gdB (!lL O F k i) [bnd n k])
theorem lay_ok (O : FOps) (F : Nat → Int → Nat) {n k : Int} (h0 : 0 ≤ k) (h1 : k < n) (i : Nat) : AllT (lay O F n k i) := by
  have b := bnd_ok h0 h1
  exact AllT.app (AllT.app (AllT.one b) (gdB_ok fun _ => AllT.one b)) (gdB_ok fun _ => gdB_ok fun _ => AllT.one b)
noncomputable def idL (O : FOps) (F : Nat → Int → Nat) (n k : Int) : List Bool := [decide (k < n), bnd n k] ++ lay O F n k 0 ++ gdB (cL O F k 0) (lay O F n k 1) ++ gdB (cL O F k 0) (gdB (cL O F k 1) (lay O F n k 2)) ++ gdB (cL O F k 0) (gdB (cL O F k 1) (gdB (cL O F k 2) (lay O F n k 3))) ++ gdB (cL O F k 0) (gdB (cL O F k 1) (gdB (cL O F k 2) (gdB (cL O F k 3) (lay O F n k 4)))) ++ gdB (cL O F k 0) (gdB (cL O F k 1) (gdB (cL O F k 2) (gdB (cL O F k 3) (gdB (cL O F k 4) (lay O F n k 5)))))
theorem idL_ok (O : FOps) (F : Nat → Int → Nat) {n k : Int} (h0 : 0 ≤ k) (h1 : k < n) : AllT (idL O F n k) := by
  have b := bnd_ok h0 h1
  have l := fun i => lay_ok O F h0 h1 i
  exact AllT.app (AllT.app (AllT.app (AllT.app (AllT.app (AllT.app (AllT.cons (by simpa using h1) (AllT.one b)) (l 0)) (gdB_ok fun _ => l 1)) (gdB_ok fun _ => gdB_ok fun _ => l 2)) (gdB_ok fun _ => gdB_ok fun _ => gdB_ok fun _ => l 3)) (gdB_ok fun _ => gdB_ok fun _ => gdB_ok fun _ => gdB_ok fun _ => l 4)) (gdB_ok fun _ => gdB_ok fun _ => gdB_ok fun _ => gdB_ok fun _ => gdB_ok fun _ => l 5)
noncomputable def skS : Sk := ⟨[(0, .c (.ptr 2 0)), (3, .c (.int .i64))], [(1, ⟨false, false, .rows 18⟩), (2, ⟨false, false, .cells stK⟩)], 3⟩
noncomputable def NS : Nat := Try.f64.ntmps
noncomputable def goS (O : FOps) (j : Nat) (s : Sk) (F : Nat → Int → Nat) (G : Nat → Int → Int) (n k : Int) (a b : Nat) (u t : Int) (c : Nat) : Option (Option XK × List LD × List Bool) :=
  goJ (cxA O) NS ⟨hint [(12, true)], fun _ => none⟩ (bodyOf Try.f64 2) j 3 60 skS [] s ([.i k] ++ dA n n a b u t c (Row F G))
set_option maxRecDepth 100000 in
theorem rn (O : FOps) (F : Nat → Int → Nat) (G : Nat → Int → Int) (n k : Int) (a b : Nat) (u t : Int) (c : Nat) : goS O 6 skS F G n k a b u t c = some (none, [.i (IntKind.i64.wrap (k + 1))] ++ dA n n a b u t c (Row F G), idL O F n k ++ [!cL O F k 0, !cL O F k 1, !cL O F k 2, !cL O F k 3, !cL O F k 4, !cL O F k 5, flatR (Row F G)]) := by kernel_rfl
set_option maxRecDepth 100000 in
theorem ry0 (O : FOps) (F : Nat → Int → Nat) (G : Nat → Int → Int) (n k : Int) (a b : Nat) (u t : Int) (c : Nat) : goS O 0 skR F G n k a b u t c = some (some .ret, [], idL O F n k ++ [cL O F k 0]) := by kernel_rfl
set_option maxRecDepth 100000 in
theorem ry1 (O : FOps) (F : Nat → Int → Nat) (G : Nat → Int → Int) (n k : Int) (a b : Nat) (u t : Int) (c : Nat) : goS O 1 skR F G n k a b u t c = some (some .ret, [], idL O F n k ++ [!cL O F k 0, cL O F k 1]) := by kernel_rfl
set_option maxRecDepth 100000 in
theorem ry2 (O : FOps) (F : Nat → Int → Nat) (G : Nat → Int → Int) (n k : Int) (a b : Nat) (u t : Int) (c : Nat) : goS O 2 skR F G n k a b u t c = some (some .ret, [], idL O F n k ++ [!cL O F k 0, !cL O F k 1, cL O F k 2]) := by kernel_rfl
set_option maxRecDepth 100000 in
theorem ry3 (O : FOps) (F : Nat → Int → Nat) (G : Nat → Int → Int) (n k : Int) (a b : Nat) (u t : Int) (c : Nat) : goS O 3 skR F G n k a b u t c = some (some .ret, [], idL O F n k ++ [!cL O F k 0, !cL O F k 1, !cL O F k 2, cL O F k 3]) := by kernel_rfl
set_option maxRecDepth 100000 in
theorem ry4 (O : FOps) (F : Nat → Int → Nat) (G : Nat → Int → Int) (n k : Int) (a b : Nat) (u t : Int) (c : Nat) : goS O 4 skR F G n k a b u t c = some (some .ret, [], idL O F n k ++ [!cL O F k 0, !cL O F k 1, !cL O F k 2, !cL O F k 3, cL O F k 4]) := by kernel_rfl
set_option maxRecDepth 100000 in
theorem ry5 (O : FOps) (F : Nat → Int → Nat) (G : Nat → Int → Int) (n k : Int) (a b : Nat) (u t : Int) (c : Nat) : goS O 5 skR F G n k a b u t c = some (some .ret, [], idL O F n k ++ [!cL O F k 0, !cL O F k 1, !cL O F k 2, !cL O F k 3, !cL O F k 4, cL O F k 5]) := by kernel_rfl
set_option maxRecDepth 100000 in
theorem reS (O : FOps) (F : Nat → Int → Nat) (G : Nat → Int → Int) (n k : Int) (a b : Nat) (u t : Int) (c : Nat) : goL (cxA O) NS ⟨hint [(12, false)], fun _ => none⟩ (bodyOf Try.f64 2) 3 60 skS [] skE ([.i k] ++ dA n n a b u t c (Row F G)) = some (some (.exit 0), [], [!decide (k < n)]) := by kernel_rfl
noncomputable def bL (O : FOps) (F : Nat → Int → Nat) (k : Int) : Bool := bif cL O F k 0 then true else bif cL O F k 1 then true else bif cL O F k 2 then true else bif cL O F k 3 then true else bif cL O F k 4 then true else bif cL O F k 5 then true else false
set_option maxRecDepth 100000 in
theorem bL_eq (O : FOps) (F : Nat → Int → Nat) (k : Int) : brB O F k = bL O F k := by
  have h0 : Brn.cW O (at18 F k) 0 = cL O F k 0 := by kernel_rfl
  have h1 : Brn.cW O (at18 F k) (0 + 1) = cL O F k 1 := by kernel_rfl
  have h2 : Brn.cW O (at18 F k) (0 + 1 + 1) = cL O F k 2 := by kernel_rfl
  have h3 : Brn.cW O (at18 F k) (0 + 1 + 1 + 1) = cL O F k 3 := by kernel_rfl
  have h4 : Brn.cW O (at18 F k) (0 + 1 + 1 + 1 + 1) = cL O F k 4 := by kernel_rfl
  have h5 : Brn.cW O (at18 F k) (0 + 1 + 1 + 1 + 1 + 1) = cL O F k 5 := by kernel_rfl
  show (bif Brn.cW O (at18 F k) (0) then true else bif Brn.cW O (at18 F k) (0 + 1) then true else bif Brn.cW O (at18 F k) (0 + 1 + 1) then true else bif Brn.cW O (at18 F k) (0 + 1 + 1 + 1) then true else bif Brn.cW O (at18 F k) (0 + 1 + 1 + 1 + 1) then true else bif Brn.cW O (at18 F k) (0 + 1 + 1 + 1 + 1 + 1) then true else false) = _
  rw [h0, h1, h2, h3, h4, h5]
  rfl
theorem loS (F : Nat → Int → Nat) (G : Nat → Int → Int) (n : Int) (hn : n ≤ 1048576) (a b : Nat) (u t : Int) (c : Nat) : ∀ (m : Nat) (k : Int), 0 ≤ k → k + m = n →
    (eqFrom (nb fops F) k m = true → Loops (cxA fops) NS (fun _ => none) (bodyOf Try.f64 2) 3 60 skS ([.i k] ++ dA n n a b u t c (Row F G)) (.exit 0) skE []) ∧
    (eqFrom (nb fops F) k m = false → Loops (cxA fops) NS (fun _ => none) (bodyOf Try.f64 2) 3 60 skS ([.i k] ++ dA n n a b u t c (Row F G)) .ret skR []) := by
  have fl : flatR (Row F G) = true := rowK_flat _ _ _
  intro m
  induction m with
  | zero =>
    intro k hk hkn
    have e : k = n := by omega
    subst e
    refine ⟨fun _ => .done (ts := hint [(12, false)]) (ρ := []) (reS fops F G k k a b u t c) (AllT.one (by simp)), fun h => by cases h⟩
  | succ m ih =>
    intro k hk hkn
    have hlt : k < n := by omega
    obtain ⟨i1, i2⟩ := ih (k + 1) (by omega) (by omega)
    have hE : eqFrom (nb fops F) k (m + 1) = bif nb fops F k then eqFrom (nb fops F) (k + 1) m else false := rfl
    have hi := idL_ok fops F hk hlt
    have hb : nb fops F k = !bL fops F k := by unfold nb; rw [bL_eq]
    have ret : nb fops F k = false → Loops (cxA fops) NS (fun _ => none) (bodyOf Try.f64 2) 3 60 skS ([.i k] ++ dA n n a b u t c (Row F G)) .ret skR [] := fun h => by
      rw [hb] at h
      cases q0 : cL fops F k 0 with
      | true => exact .doneJ (ts := hint [(12, true)]) (j := 0) (ρ := []) (ry0 fops F G n k a b u t c) (AllT.app hi (AllT.one q0))
      | false =>
        cases q1 : cL fops F k 1 with
        | true => exact .doneJ (ts := hint [(12, true)]) (j := 1) (ρ := []) (ry1 fops F G n k a b u t c) (AllT.app hi (AllT.cons (by rw [q0]; rfl) (AllT.one q1)))
        | false =>
          cases q2 : cL fops F k 2 with
          | true => exact .doneJ (ts := hint [(12, true)]) (j := 2) (ρ := []) (ry2 fops F G n k a b u t c) (AllT.app hi (AllT.cons (by rw [q0]; rfl) (AllT.cons (by rw [q1]; rfl) (AllT.one q2))))
          | false =>
            cases q3 : cL fops F k 3 with
            | true => exact .doneJ (ts := hint [(12, true)]) (j := 3) (ρ := []) (ry3 fops F G n k a b u t c) (AllT.app hi (AllT.cons (by rw [q0]; rfl) (AllT.cons (by rw [q1]; rfl) (AllT.cons (by rw [q2]; rfl) (AllT.one q3)))))
            | false =>
              cases q4 : cL fops F k 4 with
              | true => exact .doneJ (ts := hint [(12, true)]) (j := 4) (ρ := []) (ry4 fops F G n k a b u t c) (AllT.app hi (AllT.cons (by rw [q0]; rfl) (AllT.cons (by rw [q1]; rfl) (AllT.cons (by rw [q2]; rfl) (AllT.cons (by rw [q3]; rfl) (AllT.one q4))))))
              | false =>
                cases q5 : cL fops F k 5 with
                | true => exact .doneJ (ts := hint [(12, true)]) (j := 5) (ρ := []) (ry5 fops F G n k a b u t c) (AllT.app hi (AllT.cons (by rw [q0]; rfl) (AllT.cons (by rw [q1]; rfl) (AllT.cons (by rw [q2]; rfl) (AllT.cons (by rw [q3]; rfl) (AllT.cons (by rw [q4]; rfl) (AllT.one q5)))))))
                | false =>
                  unfold bL at h
                  rw [q0, q1, q2, q3, q4, q5] at h
                  cases h
    rw [hE]
    cases hq : nb fops F k with
    | false => exact ⟨fun h => (by cases h), fun _ => ret hq⟩
    | true =>
      rw [hb] at hq
      have hz : bL fops F k = false := by simpa using hq
      have all : cL fops F k 0 = false ∧ cL fops F k 1 = false ∧ cL fops F k 2 = false ∧ cL fops F k 3 = false ∧ cL fops F k 4 = false ∧ cL fops F k 5 = false := by
        unfold bL at hz
        revert hz
        cases cL fops F k 0 <;> cases cL fops F k 1 <;> cases cL fops F k 2 <;> cases cL fops F k 3 <;> cases cL fops F k 4 <;> cases cL fops F k 5 <;> simp
      obtain ⟨q0, q1, q2, q3, q4, q5⟩ := all
      have h1 := rn fops F G n k a b u t c
      rw [wrap_succ hk (by omega)] at h1
      have ho : AllT (idL fops F n k ++ [!cL fops F k 0, !cL fops F k 1, !cL fops F k 2, !cL fops F k 3, !cL fops F k 4, !cL fops F k 5, flatR (Row F G)]) := AllT.app hi (AllT.cons (by rw [q0]; rfl) (AllT.cons (by rw [q1]; rfl) (AllT.cons (by rw [q2]; rfl) (AllT.cons (by rw [q3]; rfl) (AllT.cons (by rw [q4]; rfl) (AllT.cons (by rw [q5]; rfl) (AllT.one fl)))))))
      exact ⟨fun h => .stepJ (ts := hint [(12, true)]) (j := 6) (ρ := []) h1 ho (i1 h), fun h => .stepJ (ts := hint [(12, true)]) (j := 6) (ρ := []) h1 ho (i2 h)⟩
def PS (n k m : Int) (row : Int → List SC) : Prop := k = 0 ∧ n = m ∧ 0 ≤ m ∧ m ≤ 1048576 ∧ Shape ts row
noncomputable def FS (O : FOps) : List LD → Option (XO × List Bool)
  | [.i k, .i n, .r row, .i m, .f _, .f _, .i _, .i _, .f _] => some ([(.s (!eqFrom (nb O (datF row)) 0 m.toNat), .ret, skR, []), (.t, .exit 0, skE, [])], [pB (PS n k m row)])
  | _ => none
noncomputable def LSl (O : FOps) : List Ly → Top → Option Outs := orIter (cxA O) NS (bodyOf Try.f64 2) (loopL NS 3 60 skS [] (FS O))
set_option maxRecDepth 100000 in
theorem okS : CodeOK Try.prog NS (.loop (bodyOf Try.f64 2)) (LSl fops) := by
  refine orIter_ok (l := LA fops) okLA mixed 8 (loopL_ok (cx := cxA fops) (lp := fun _ => none) (fun ts => body_ok (l := LA fops) okLA mixed 8 _ ts) fun p r hr hob => ?_)
  unfold FS at hr
  split at hr <;> cases hr
  rename_i k n row m a b u t c
  obtain ⟨e1, e2, h0, hm, hs⟩ := pB_iff.1 hob.head
  obtain ⟨h1, h2⟩ := loS (datF row) (datG row) m hm a b u t c m.toNat 0 (Int.le_refl _) (by omega)
  have hs1 : Row (datF row) (datG row) = row := hs.symm
  rw [hs1] at h1 h2
  rw [e1, e2]
  cases hq : eqFrom (nb fops (datF row)) 0 m.toNat with
  | true => exact ⟨.exit 0, skE, [], by simp [pickX, SB.val], h1 hq⟩
  | false => exact ⟨.ret, skR, [], by simp [pickX, SB.val], h2 hq⟩
set_option maxRecDepth 100000 in
theorem cA0 : CallOK Try.prog 65 (inl (cxA fops) Try.f65 ⟨fun _ => none, lpOf [(2, LAl fops)]⟩) := by
  have hb : Try.f65.body.isSome = true := by kernel_rfl
  obtain ⟨c, hc⟩ := Option.isSome_iff_exists.1 hb
  have h1 : (match Try.f65.body with | some c => onceB (loopsIn c) && (match loopAt 2 (loopsIn c) with | some _ => true | none => false) | none => false) = true := by kernel_rfl
  rw [hc] at h1
  simp only [Bool.and_eq_true] at h1
  exact inlL_of (l := LA fops) (ls := [(2, LAl fops)]) okLA mixed 8 Try.func65 (by kernel_rfl) (fun _ => none) hc h1.1 ⟨⟨_, bodyOf_at hc h1.2, okA⟩, trivial⟩
set_option maxRecDepth 100000 in
theorem cS0 : CallOK Try.prog 64 (inl (cxA fops) Try.f64 ⟨fun _ => none, lpOf [(2, LSl fops)]⟩) := by
  have hb : Try.f64.body.isSome = true := by kernel_rfl
  obtain ⟨c, hc⟩ := Option.isSome_iff_exists.1 hb
  have h1 : (match Try.f64.body with | some c => onceB (loopsIn c) && (match loopAt 2 (loopsIn c) with | some _ => true | none => false) | none => false) = true := by kernel_rfl
  rw [hc] at h1
  simp only [Bool.and_eq_true] at h1
  exact inlL_of (l := LA fops) (ls := [(2, LSl fops)]) okLA mixed 8 Try.func64 (by kernel_rfl) (fun _ => none) hc h1.1 ⟨⟨_, bodyOf_at hc h1.2, okS⟩, trivial⟩
/-- Whether a log of a stove burns. -/
noncomputable def aR (O : FOps) (n : Int) (row : Int → List SC) : Bool := bif !eqFrom (nb O (datF row)) 0 n.toNat then true else false
set_option maxRecDepth 100000 in
theorem A_run (O : FOps) (f w o : Bool) (n N : Int) (row : Int → List SC) (a b : Nat) (s t : Int) (c : Nat) : roS (inl (cxA O) Try.f65 ⟨fun _ => none, lpOf [(2, LAl O)]⟩) 2 [.a (stL f n a b s t c)] [(1, ⟨w, o, .rows 18 N row⟩)] =
    some ⟨.c (.bool (.s (aR O n row))), [], 200, [flatR row, pB (PA n n 0 N n row)]⟩ := by kernel_rfl
set_option maxRecDepth 100000 in
theorem S_run (O : FOps) (f w o w' o' : Bool) (n N : Int) (row : Int → List SC) (a b : Nat) (s t : Int) (c : Nat) : roS (inl (cxA O) Try.f64 ⟨fun _ => none, lpOf [(2, LSl O)]⟩) 3 [.c (.ptr 2 0)] [(1, ⟨w, o, .rows 18 N row⟩), (2, ⟨w', o', .cells (stL f n a b s t c)⟩)] =
    some ⟨.c (.bool (.s (aR O n row))), [], 60, [flatR row, pB (PS N 0 n row)]⟩ := by kernel_rfl
noncomputable def aH (O : FOps) : CS := fun base args rd => match args with
  | [.a [.sl i o es (.s n) _, .flt .f32 _, .flt .f32 _, .int .i8 (.s _), .int .i64 (.s _), .flt .f32 _]] => match rd with
    | [(j, ⟨_, _, .rows st N row⟩)] => match Nat.beq base 2 && (Nat.beq i 1 && (Nat.beq o 0 && (Nat.beq es 18 && (Nat.beq j 1 && Nat.beq st 18)))) with
      | true => some ⟨.c (.bool (.s (aR O n row))), [], 200, [okN n N row]⟩
      | false => none
    | _ => none
  | _ => none
noncomputable def aHS (O : FOps) : CS := fun base args rd => match args with
  | [.c (.ptr i' o')] => match rd with
    | [(j, ⟨_, _, .rows st N row⟩), (j', ⟨_, _, .cells [.sl i o es (.s n) _, .flt .f32 _, .flt .f32 _, .int .i8 (.s _), .int .i64 (.s _), .flt .f32 _]⟩)] =>
      match Nat.beq base 3 && (Nat.beq i' 2 && (Nat.beq o' 0 && (Nat.beq j' 2 && (Nat.beq i 1 && (Nat.beq o 0 && (Nat.beq es 18 && (Nat.beq j 1 && Nat.beq st 18))))))) with
      | true => some ⟨.c (.bool (.s (aR O n row))), [], 60, [okN n N row]⟩
      | false => none
    | _ => none
  | _ => none
noncomputable def aC (O : FOps) : CS := orS (canS (aH O)) (inl (cxA O) Try.f65 noH)
noncomputable def aCS (O : FOps) : CS := orS (canS (aHS O)) (inl (cxA O) Try.f64 noH)
set_option maxRecDepth 100000 in
theorem cAC : CallOK Try.prog 65 (aC fops) :=
  (CallOK.hand (H := aH fops) cA0.ro fun b args rd e h hob => by
    unfold aH at h
    split at h <;> try (cases h; done)
    rename_i i o es n f xa xb s t xc
    split at h <;> try (cases h; done)
    rename_i j w p st N row
    split at h <;> cases h
    rename_i hc
    simp only [Bool.and_eq_true, beqN] at hc
    obtain ⟨rfl, rfl, rfl, rfl, rfl, rfl⟩ := hc
    obtain ⟨rfl, h0, hm, hs⟩ := pB_iff.1 hob.head
    exact ⟨_, A_run fops f w p N N row xa xb s t xc, AllT.cons (shape_flat hs) (AllT.one (pB_iff.2 ⟨rfl, rfl, rfl, rfl, h0, hm, hs⟩))⟩).can.or
    (inlN_of (l := LA fops) okLA mixed 8 Try.func65 (by kernel_rfl) (fun _ => none))
set_option maxRecDepth 100000 in
theorem cACS : CallOK Try.prog 64 (aCS fops) :=
  (CallOK.hand (H := aHS fops) cS0.ro fun b args rd e h hob => by
    unfold aHS at h
    split at h <;> try (cases h; done)
    rename_i i' o'
    split at h <;> try (cases h; done)
    rename_i j w p st N row j' w' p' i o es n f xa xb s t xc
    split at h <;> cases h
    rename_i hc
    simp only [Bool.and_eq_true, beqN] at hc
    obtain ⟨rfl, rfl, rfl, rfl, rfl, rfl, rfl, rfl, rfl⟩ := hc
    obtain ⟨rfl, h0, hm, hs⟩ := pB_iff.1 hob.head
    exact ⟨_, S_run fops f w p w' p' N N row xa xb s t xc, AllT.cons (shape_flat hs) (AllT.one (pB_iff.2 ⟨rfl, rfl, h0, hm, hs⟩))⟩).can.or
    (inlN_of (l := LA fops) okLA mixed 8 Try.func64 (by kernel_rfl) (fun _ => none))
end
end Go.Proofs.Ytngdmcbjponlhaa.Aly
end

/- Sums, differences and products of floats: bounds. Nothing is assumed. -/
section
namespace Go.Proofs.Ytngdmcbjponlhaa
open Go

abbrev un (r : Nat) : Nat := units FloatKind.f32.format.binade r
theorem un_le {r r' : Nat} (h : r ≤ r') : un r ≤ un r' := units_le (binade_pos .f32) h
theorem nan_word (s : Bool) {r : Nat} (h : r ≤ 2139095040) : nanb .f32 (FloatKind.f32.format.word s r) = false ∧ negB .f32 (FloatKind.f32.format.word s r) = s ∧ rung .f32 (FloatKind.f32.format.word s r) = r := by
  have hr : r < FloatKind.f32.format.signWeight := by rw [sw32]; omega
  have h1 := rung_word FloatKind.f32.format s hr
  refine ⟨?_, ?_, h1⟩
  · unfold nanb FloatKind.decode
    rw [read_nan, h1, inf32]; simp; omega
  · unfold negB
    cases s
    · rw [word_false, Nat.div_eq_of_lt hr]; rfl
    · have : FloatKind.f32.format.word true r = FloatKind.f32.format.signWeight + r := by
        unfold Ieee.Format.word; simp
      rw [this, Nat.add_div_left _ (by rw [sw32]; decide), Nat.div_eq_of_lt hr]; rfl
/-- A sum of two numbers. -/
structure SumF (z : Nat) (v : Int) : Prop where
  nan : nanb .f32 z = false
  inf : rung .f32 z ≤ 2139095040
  neg : v < 0 → negB .f32 z = true
  pos : 0 < v → negB .f32 z = false
  le : ∀ r, v.natAbs ≤ un r → rung .f32 z ≤ r
theorem sum_form {x y : Nat} (sy : Bool) (hx : Fin x) (hy : Fin y) :
    ∀ z, (((FloatKind.f32.format.read x).sum (match sy with | true => (FloatKind.f32.format.read y).opposite | false => FloatKind.f32.format.read y)).map FloatKind.f32.format.write).getD (qnan .f32) = z →
      SumF z (val x + (bif sy then - val y else val y)) ∧ (negB .f32 x = false → (bif sy then true else negB .f32 y == false) = true → val x + (bif sy then - val y else val y) = 0 → negB .f32 z = false) := by
  intro z hz
  obtain ⟨m, i, h1, h2, h3⟩ := fin_read hx
  obtain ⟨n, j, g1, g2, g3⟩ := fin_read hy
  have hop : (match sy with | true => (FloatKind.f32.format.read y).opposite | false => FloatKind.f32.format.read y) = .number (sy ^^ negB .f32 y) n j := by
    cases sy
    · rw [g1]; simp
    · rw [g1]; simp [Ieee.Datum.opposite]
  rw [hop, h1] at hz
  simp only [Ieee.Datum.sum, Option.map_some, Option.getD_some, Ieee.Format.write] at hz
  have e1 := signed_val (x := x) (b := min i j) (negB .f32 x) (by omega) (by omega) h3
  have e2 := signed_val (x := y) (b := min i j) (sy ^^ negB .f32 y) (by omega) (by omega) g3
  have e2' : sgn (sy ^^ negB .f32 y) (units FloatKind.f32.format.binade (rung .f32 y)) = bif sy then - val y else val y := by
    cases sy
    · simp [val]
    · simp [val, sgn_not]
  rw [e2'] at e2
  generalize hT : Ieee.signed (negB .f32 x) m (i - min i j).toNat + Ieee.signed (sy ^^ negB .f32 y) n (j - min i j).toNat = T at hz
  generalize hV : val x + (bif sy then - val y else val y) = V
  have hTv : T * (2 ^ (min i j - FloatKind.f32.format.leastPlace).toNat : Nat) = V := by
    rw [← hT, Int.add_mul, e1, e2, ← hV]; rfl
  have hp : (0 : Int) < ((2 ^ (min i j - FloatKind.f32.format.leastPlace).toNat : Nat) : Int) := by exact_mod_cast Nat.two_pow_pos _
  have hle : ∀ r, V.natAbs ≤ un r → T.natAbs * 2 ^ (min i j - FloatKind.f32.format.leastPlace).toNat ≤ units FloatKind.f32.format.binade r * 2 ^ (FloatKind.f32.format.leastPlace - min i j).toNat := by
    intro r hr
    have z : (FloatKind.f32.format.leastPlace - min i j).toNat = 0 := by omega
    rw [z, Nat.pow_zero, Nat.mul_one]
    have : T.natAbs * 2 ^ (min i j - FloatKind.f32.format.leastPlace).toNat = V.natAbs := by
      rw [← hTv, Int.natAbs_mul, Int.natAbs_natCast]
    rw [this]; exact hr
  generalize hS : (if T = 0 then negB .f32 x && (sy ^^ negB .f32 y) else decide (T < 0)) = S at hz
  have hform : ∀ r, V.natAbs ≤ un r → ∃ r', r' ≤ r ∧ r' ≤ 2139095040 ∧ z = FloatKind.f32.format.word S r' := by
    intro r hr
    obtain ⟨r', k1, k2, k3⟩ := nearest_le .f32 S (hle r hr)
    rw [inf32] at k2
    exact ⟨r', k1, k2, hz.symm.trans k3⟩
  -- some bound there is
  have hbig : ∃ r, V.natAbs ≤ un r := by
    have grow : ∀ n, n ≤ un n := by
      intro n
      induction n with
      | zero => exact Nat.zero_le _
      | succ n ih => exact Nat.lt_of_le_of_lt ih (units_lt (binade_pos .f32) (Nat.lt_succ_self n))
    exact ⟨_, grow _⟩
  obtain ⟨R, hR⟩ := hbig
  obtain ⟨r0, _, q2, q3⟩ := hform R hR
  obtain ⟨w1, w2, w3⟩ := nan_word S q2
  have hT0 : T < 0 ↔ V < 0 := by
    rw [← hTv]
    constructor
    · intro h; exact Int.mul_neg_of_neg_of_pos h hp
    · intro h
      rcases Int.lt_or_le T 0 with h' | h'
      · exact h'
      · have := Int.mul_nonneg h' (Int.le_of_lt hp); omega
  have hT1 : T = 0 ↔ V = 0 := by
    rw [← hTv]
    constructor
    · intro h; rw [h, Int.zero_mul]
    · intro h
      rcases Int.mul_eq_zero.1 h with h' | h'
      · exact h'
      · omega
  refine ⟨⟨by rw [q3]; exact w1, by rw [q3, w3]; exact q2, fun hv => ?_, fun hv => ?_, fun r hr => ?_⟩, fun hx0 hy0 hv => ?_⟩
  · rw [q3, w2, ← hS, if_neg (fun h => by have := hT1.1 h; omega)]
    exact decide_eq_true (hT0.2 hv)
  · rw [q3, w2, ← hS, if_neg (fun h => by have := hT1.1 h; omega)]
    exact decide_eq_false (fun h => by have := hT0.1 h; omega)
  · obtain ⟨r1, k1, k2, k3⟩ := hform r hr
    rw [k3, (nan_word S k2).2.2]; exact k1
  · rw [q3, w2, ← hS, if_pos (hT1.2 hv), hx0]; rfl
theorem add_form {x y : Nat} (hx : Fin x) (hy : Fin y) : SumF (fops.bin .add .f32 x y) (val x + val y) ∧ (negB .f32 x = false → negB .f32 y = false → val x + val y = 0 → negB .f32 (fops.bin .add .f32 x y) = false) := by
  obtain ⟨h1, h2⟩ := sum_form false hx hy _ rfl
  exact ⟨h1, fun a b c => h2 a (by simp [b]) c⟩
theorem sub_form {x y : Nat} (hx : Fin x) (hy : Fin y) : SumF (fops.bin .sub .f32 x y) (val x - val y) ∧ (negB .f32 x = false → val x - val y = 0 → negB .f32 (fops.bin .sub .f32 x y) = false) := by
  obtain ⟨h1, h2⟩ := sum_form true hx hy _ rfl
  exact ⟨h1, fun a c => h2 a rfl c⟩
/-- A word below 'r', up to the sign. -/
def Bd (x r : Nat) : Prop := Fin x ∧ rung .f32 x ≤ r
theorem val_abs (x : Nat) : (val x).natAbs = un (rung .f32 x) := by
  unfold val sgn
  cases negB .f32 x <;> simp
theorem Bd.mono {x r r' : Nat} (h : Bd x r) (hr : r ≤ r') : Bd x r' := ⟨h.1, Nat.le_trans h.2 hr⟩
theorem bd_small {x r : Nat} (h : x ≤ r) (hr : r < 2139095040) : Bd x r := ⟨fin_small (by omega), by rw [rung_small (by omega)]; exact h⟩
theorem SumF.bd {z : Nat} {v : Int} (h : SumF z v) {r : Nat} (hr : r < 2139095040) (hv : v.natAbs ≤ un r) : Bd z r := ⟨⟨h.nan, Nat.lt_of_le_of_lt (h.le r hv) hr⟩, h.le r hv⟩
theorem Bd.add {x y a b r : Nat} (hx : Bd x a) (hy : Bd y b) (hr : r < 2139095040) (h : un a + un b ≤ un r) : Bd (fops.bin .add .f32 x y) r := by
  refine (add_form hx.1 hy.1).1.bd hr (Nat.le_trans (Int.natAbs_add_le _ _) ?_)
  rw [val_abs, val_abs]
  have := un_le hx.2
  have := un_le hy.2
  omega
theorem Bd.sub {x y a b r : Nat} (hx : Bd x a) (hy : Bd y b) (hr : r < 2139095040) (h : un a + un b ≤ un r) : Bd (fops.bin .sub .f32 x y) r := by
  refine (sub_form hx.1 hy.1).1.bd hr (Nat.le_trans (Int.natAbs_sub_le _ _) ?_)
  rw [val_abs, val_abs]
  have := un_le hx.2
  have := un_le hy.2
  omega
theorem Bd.mul {x y a b r : Nat} (hx : Bd x a) (hy : Bd y b) (hr : r < 2139095040) (h : un a * un b ≤ un r * 2 ^ 149) : Bd (fops.bin .mul .f32 x y) r := by
  obtain ⟨m, i, h1, h2, h3⟩ := fin_read hx.1
  obtain ⟨n, j, g1, g2, g3⟩ := fin_read hy.1
  have hdef : fops.bin .mul .f32 x y = (((FloatKind.f32.format.read x).product (FloatKind.f32.format.read y)).map FloatKind.f32.format.write).getD (qnan .f32) := rfl
  rw [hdef, h1, g1]
  simp only [Ieee.Datum.product, Option.map_some, Option.getD_some, Ieee.Format.write]
  have lp : FloatKind.f32.format.leastPlace = -149 := by decide +kernel
  have hab : units FloatKind.f32.format.binade (rung .f32 x) * units FloatKind.f32.format.binade (rung .f32 y) ≤ un r * 2 ^ 149 :=
    Nat.le_trans (Nat.mul_le_mul (un_le hx.2) (un_le hy.2)) h
  have key : m * n * 2 ^ (i + j - FloatKind.f32.format.leastPlace).toNat ≤ units FloatKind.f32.format.binade r * 2 ^ (FloatKind.f32.format.leastPlace - (i + j)).toNat := by
    rw [← h3, ← g3] at hab
    have e1 : m * 2 ^ (i - FloatKind.f32.format.leastPlace).toNat * (n * 2 ^ (j - FloatKind.f32.format.leastPlace).toNat) = m * n * 2 ^ ((i - FloatKind.f32.format.leastPlace).toNat + (j - FloatKind.f32.format.leastPlace).toNat) := by
      rw [Nat.pow_add]; simp only [Nat.mul_comm, Nat.mul_left_comm, Nat.mul_assoc]
    rw [e1] at hab
    rw [lp] at h2 g2 hab ⊢
    by_cases hij : -149 ≤ i + j
    · have z : (-149 - (i + j)).toNat = 0 := by omega
      rw [z, Nat.pow_zero, Nat.mul_one]
      have e2 : (i - -149).toNat + (j - -149).toNat = (i + j - -149).toNat + 149 := by omega
      rw [e2, Nat.pow_add, ← Nat.mul_assoc] at hab
      exact Nat.le_of_mul_le_mul_right hab (Nat.two_pow_pos 149)
    · have z : (i + j - -149).toNat = 0 := by omega
      rw [z, Nat.pow_zero, Nat.mul_one]
      have e2 : 149 = (-149 - (i + j)).toNat + ((i - -149).toNat + (j - -149).toNat) := by omega
      have h' : m * n * 2 ^ ((i - -149).toNat + (j - -149).toNat) ≤ units FloatKind.f32.format.binade r * 2 ^ (-149 - (i + j)).toNat * 2 ^ ((i - -149).toNat + (j - -149).toNat) := by
        rw [Nat.mul_assoc (units FloatKind.f32.format.binade r), ← Nat.pow_add, ← e2]; exact hab
      exact Nat.le_of_mul_le_mul_right h' (Nat.two_pow_pos _)
  obtain ⟨r', k1, k2, k3⟩ := nearest_le .f32 (negB .f32 x ^^ negB .f32 y) key
  rw [inf32] at k2
  have k4 := nan_word (negB .f32 x ^^ negB .f32 y) k2
  rw [← k3] at k4
  refine ⟨⟨k4.1, ?_⟩, ?_⟩
  · exact Nat.lt_of_le_of_lt (Nat.le_of_eq k4.2.2) (Nat.lt_of_le_of_lt k1 hr)
  · exact Nat.le_trans (Nat.le_of_eq k4.2.2) k1
theorem Fin.num {x : Nat} (h : Fin x) : isNum x = true := by
  obtain ⟨m, e, h1, _⟩ := fin_read h
  unfold isNum; rw [h1]
theorem Bd.num {x r : Nat} (h : Bd x r) : isNum x = true := h.1.num
theorem num_fin {x : Nat} (h : isNum x = true) : Fin x := by
  have hn := nan_num h
  rcases read_cases .f32 x hn with ⟨m, e, h1, _, _, h4⟩ | ⟨h1, _⟩
  · rw [inf32] at h4; exact ⟨hn, h4⟩
  · unfold isNum at h; rw [h1] at h; cases h
theorem num_bd {x : Nat} (h : isNum x = true) : Bd x 2139095039 := ⟨num_fin h, by have := (num_fin h).2; omega⟩
theorem write_inf (s : Bool) : isNum (FloatKind.f32.format.write (.infinity s)) = false := by cases s <;> decide +kernel
theorem mul_num {x y : Nat} (h : isNum (fops.bin .mul .f32 x y) = true) : isNum x = true ∧ isNum y = true := by
  have hdef : fops.bin .mul .f32 x y = (((FloatKind.f32.format.read x).product (FloatKind.f32.format.read y)).map FloatKind.f32.format.write).getD (qnan .f32) := rfl
  have hq : isNum (qnan .f32) = false := by decide +kernel
  rw [hdef] at h
  unfold isNum
  cases h1 : FloatKind.f32.format.read x <;> cases h2 : FloatKind.f32.format.read y <;> rw [h1, h2] at h <;> simp only [Ieee.Datum.product] at h <;> first
    | exact ⟨rfl, rfl⟩
    | (simp only [Option.map_none, Option.getD_none, hq] at h; cases h)
    | (simp only [Option.map_some, Option.getD_some, write_inf] at h; cases h)
    | (split at h <;> first
        | (simp only [Option.map_none, Option.getD_none, hq] at h; cases h)
        | (simp only [Option.map_some, Option.getD_some, write_inf] at h; cases h))
/-! ### of words that are not negative -/
theorem word_of {z r : Nat} (hc : Cn .f32 z) (hn : negB .f32 z = false) (hr : rung .f32 z ≤ r) : z ≤ r := by
  have hlt : z < 4294967296 := hc.lt
  unfold negB rung at *
  rw [sw32] at *
  simp at hn
  omega
theorem add_amt {x y a b r : Nat} (hx : x ≤ a) (hy : y ≤ b) (ha : a < 2139095040) (hb : b < 2139095040) (h : un a + un b ≤ un r) : fops.bin .add .f32 x y ≤ r := by
  have fx := bd_small hx ha
  have fy := bd_small hy hb
  obtain ⟨h1, h2⟩ := add_form fx.1 fy.1
  have nx := neg_small (x := x) (by omega)
  have ny := neg_small (x := y) (by omega)
  rw [val_small (x := x) (by omega), val_small (x := y) (by omega)] at h1 h2
  refine word_of bin_cn ?_ (h1.le r ?_)
  · rcases Int.lt_or_le 0 ((units FloatKind.f32.format.binade x : Nat) + (units FloatKind.f32.format.binade y : Nat) : Int) with h3 | h3
    · exact h1.pos h3
    · exact h2 nx ny (by omega)
  · have a1 : un x ≤ un a := un_le hx
    have a2 : un y ≤ un b := un_le hy
    unfold un at *
    omega
theorem sub_amt {x y : Nat} (hx : x < 2139095040) (h : y ≤ x) : fops.bin .sub .f32 x y ≤ x := by
  have fx := fin_small hx
  have fy := fin_small (x := y) (by omega)
  obtain ⟨h1, h2⟩ := sub_form fx fy
  rw [val_small (x := x) (by omega), val_small (x := y) (by omega)] at h1 h2
  have a1 : un y ≤ un x := un_le h
  unfold un at a1
  refine word_of bin_cn ?_ (h1.le x (by unfold un; omega))
  rcases Int.lt_or_le 0 ((units FloatKind.f32.format.binade x : Nat) - (units FloatKind.f32.format.binade y : Nat) : Int) with h3 | h3
  · exact h1.pos h3
  · exact h2 (neg_small (by omega)) (by omega)
theorem gtr_nan_l {x y : Nat} (h : nanb .f32 x = true) : fops.cmp .gtr .f32 x y = false := by rw [cmp_gtr, h]; rfl
theorem sub_inf' {x y : Nat} (h : x < 2139095040) (g2 : FloatKind.f32.format.read y = .infinity false) : fops.bin .sub .f32 x y = FloatKind.f32.format.write (.infinity true) := by
  obtain ⟨m, i, g1, _⟩ := fin_read (fin_small h)
  have hdef : fops.bin .sub .f32 x y = (((FloatKind.f32.format.read x).sum (FloatKind.f32.format.read y).opposite).map FloatKind.f32.format.write).getD (qnan .f32) := rfl
  rw [hdef, g1, g2]
  simp only [Ieee.Datum.opposite, Ieee.Datum.sum, Option.map_some, Option.getD_some, Bool.not_false]
theorem inf_not_gt {c : Nat} (hc : c < 2139095040) : fops.cmp .gtr .f32 (FloatKind.f32.format.write (.infinity true)) c = false := by
  have kc : key .f32 c = c := by unfold key; rw [neg_small (by omega), rung_small (by omega)]; rfl
  have k2 : key .f32 (FloatKind.f32.format.write (.infinity true)) = -2139095040 := by decide +kernel
  rw [cmp_gtr, kc, k2, decide_eq_false (by omega), Bool.and_false]
theorem gtr_of_key {z c : Nat} (hc : c < 2139095040) (h : key .f32 z ≤ c) : fops.cmp .gtr .f32 z c = false := by
  have kc : key .f32 c = c := by unfold key; rw [neg_small (by omega), rung_small (by omega)]; rfl
  rw [cmp_gtr, kc, decide_eq_false (by omega), Bool.and_false]
/-- A number less something that is not negative. -/
theorem sub_not_gt {x y c : Nat} (hx : x ≤ c) (hc : c < 2139095040) (hy : y < 2147483648) : fops.cmp .gtr .f32 (fops.bin .sub .f32 x y) c = false := by
  by_cases hn : nanb .f32 y = true
  · refine gtr_nan_l ?_
    obtain ⟨s, t, hd⟩ := nan_read hn
    have : fops.bin .sub .f32 x y = qnan .f32 := by
      show (((FloatKind.f32.format.read x).sum (FloatKind.f32.format.read y).opposite).map FloatKind.f32.format.write).getD (qnan .f32) = _
      rw [hd]
      cases FloatKind.f32.format.read x <;> rfl
    rw [this]; exact qnan_nan .f32
  · have hn' : nanb .f32 y = false := by simpa using hn
    by_cases hf : y < 2139095040
    · refine gtr_of_key hc ?_
      obtain ⟨h1, _⟩ := sub_form (fin_small (x := x) (by omega)) (fin_small hf)
      rw [val_small (x := x) (by omega), val_small (x := y) (by omega)] at h1
      generalize hu : units FloatKind.f32.format.binade x = a at h1
      generalize units FloatKind.f32.format.binade y = b at h1
      generalize fops.bin .sub .f32 x y = z at h1
      unfold key
      cases hs : negB .f32 z with
      | true => simp only [cond_true]; omega
      | false =>
        simp only [cond_false]
        have hpos : (0 : Int) ≤ (a : Int) - b := by
          rcases Int.lt_or_le ((a : Int) - b) 0 with h3 | h3
          · rw [h1.neg h3] at hs; cases hs
          · exact h3
        have := h1.le x (by show _ ≤ units _ _; rw [hu]; omega)
        omega
    · have hi : FloatKind.f32.format.read y = .infinity false := by
        rcases read_cases .f32 y hn' with ⟨_, _, _, _, _, h4⟩ | ⟨h3, h4⟩
        · rw [rung_small hy, inf32] at h4; exact absurd h4 hf
        · rw [neg_small hy] at h3; exact h3
      rw [sub_inf' (by omega) hi]
      exact inf_not_gt hc
/-- A quotient of two that are not negative is not negative. -/
theorem quo_pos {x y : Nat} (hx : x < 2147483648) (hy : y < 2147483648) : fops.bin .quo .f32 x y < 2147483648 := by
  have hdef : fops.bin .quo .f32 x y = (((FloatKind.f32.format.read x).quotient (FloatKind.f32.format.fractionBits + 2) (FloatKind.f32.format.read y)).map FloatKind.f32.format.write).getD (qnan .f32) := rfl
  have sgn : ∀ {z : Nat}, z < 2147483648 → (FloatKind.f32.format.read z).neg = false := by
    intro z hz
    cases hn : nanb .f32 z with
    | true =>
      unfold Ieee.Format.read
      have : (z / FloatKind.f32.format.signWeight % 2 == 1) = false := neg_small hz
      dsimp only
      rw [this]
      split
      · rfl
      · split
        · rfl
        · split <;> rfl
    | false =>
      rcases read_cases .f32 z hn with ⟨m, e, h1, _⟩ | ⟨h1, _⟩ <;> rw [h1] <;> exact neg_small hz
  have wr : ∀ d : Ieee.Datum, d.neg = false → d.isNaN = false → FloatKind.f32.format.write d < 2147483648 := by
    intro d h1 h2
    cases d with
    | nan s t => cases h2
    | infinity s => cases h1; rw [Ieee.Format.write, word_false, inf32]; decide
    | number s m e =>
      cases h1
      simp only [Ieee.Format.write, Ieee.Format.nearest]
      split
      · rw [word_false]; decide
      · rw [word_false]
        exact Nat.lt_of_le_of_lt (Nat.min_le_right _ _) (by rw [inf32]; decide)
  rw [hdef]
  cases hp : (FloatKind.f32.format.read x).quotient (FloatKind.f32.format.fractionBits + 2) (FloatKind.f32.format.read y) with
  | none => decide +kernel
  | some d =>
    refine wr d ?_ (quotient_not_nan hp)
    have g1 := sgn hx
    have g2 := sgn hy
    cases h1 : FloatKind.f32.format.read x <;> cases h2 : FloatKind.f32.format.read y <;> rw [h1] at hp g1 <;> rw [h2] at hp g2 <;> simp only [Ieee.Datum.neg] at g1 g2 <;> subst g1 <;> subst g2 <;> simp only [Ieee.Datum.quotient] at hp <;> first
      | (cases hp; done)
      | (cases hp; rfl)
      | (split at hp <;> first | (cases hp; done) | (cases hp; rfl) | (split at hp <;> first | (cases hp; done) | (cases hp; rfl)))
end Go.Proofs.Ytngdmcbjponlhaa
end

/- The parts of a log's step: the program's are the reference's. Nothing is assumed. -/
section
namespace Go.Proofs.Ytngdmcbjponlhaa
open Go

/-- What is known of a log on its way. -/
structure Inv (w : Nat → Nat) : Prop where
  cn : ∀ i, i < 18 → Cn .f32 (w i)
  wet : ∀ i, i < 6 → w i ≤ 1092616192
  fuel : ∀ i, i < 6 → w (12 + i) ≤ 1092616192
  heat : ∀ i, i < 6 → fops.cmp .gtr .f32 (w (6 + i)) 1153138688 = false
theorem six_all {f : Nat → Bool} (h : six f = true) : ∀ i, i < 6 → f i = false := by
  unfold six at h
  have : f 0 = false ∧ f 1 = false ∧ f 2 = false ∧ f 3 = false ∧ f 4 = false ∧ f 5 = false := by
    revert h
    cases f 0 <;> cases f 1 <;> cases f 2 <;> cases f 3 <;> cases f 4 <;> cases f 5 <;> simp
  intro i hi
  match i, hi with
  | 0, _ => exact this.1
  | 1, _ => exact this.2.1
  | 2, _ => exact this.2.2.1
  | 3, _ => exact this.2.2.2.1
  | 4, _ => exact this.2.2.2.2.1
  | 5, _ => exact this.2.2.2.2.2
theorem key_word {x : Nat} (h : x ≤ 2139095040) : nanb .f32 x = false ∧ key .f32 x = x := by
  refine ⟨?_, by unfold key; rw [neg_small (by omega), rung_small (by omega)]; rfl⟩
  unfold nanb FloatKind.decode
  rw [read_nan, sw32, inf32]
  simp; omega
theorem leq_gtr {x : Nat} (h : fops.cmp .leq .f32 x 1153138688 = true) : fops.cmp .gtr .f32 x 1153138688 = false := by
  rw [cmp_leq] at h
  rw [cmp_gtr]
  simp only [Bool.and_eq_true, decide_eq_true_eq] at h
  rw [decide_eq_false (by omega), Bool.and_false]
theorem inv_of {w : Nat → Nat} (hc : ∀ i, i < 18 → Cn .f32 (w i)) (h : valid w = true) : Inv w := by
  have h1 := six_all h
  have h2 : ∀ i, i < 6 → good w i = true := fun i hi => by have := h1 i hi; simpa using this
  refine ⟨hc, fun i hi => ?_, fun i hi => ?_, fun i hi => ?_⟩
  · have := h2 i hi; unfold good at this; simp only [Bool.and_eq_true, decide_eq_true_eq] at this; exact this.1
  · have := h2 i hi; unfold good at this; simp only [Bool.and_eq_true, decide_eq_true_eq] at this; rw [Nat.add_comm]; exact this.2.1
  · have := h2 i hi
    unfold good hotB at this
    simp only [Bool.and_eq_true] at this
    rw [Nat.add_comm]
    refine leq_gtr ?_
    have h3 := this.2.2
    revert h3
    cases fops.cmp .geq .f32 (w (i + 6)) 3262119936 <;> simp
/-- A word above a bound, and not above another one. -/
theorem between_words {x lo : Nat} (hc : Cn .f32 x) (hlo : lo < 2139095040) (h1 : fops.cmp .gtr .f32 x lo = true ∨ fops.cmp .geq .f32 x lo = true) (hp : 0 < lo) (h2 : fops.cmp .gtr .f32 x 1153138688 = false) : lo ≤ x ∧ x ≤ 1153138688 := by
  have k1 := key_word (x := lo) (by omega)
  have k2 := key_word (x := 1153138688) (by decide)
  have hlt : x < 4294967296 := hc.lt
  have hx : nanb .f32 x = false ∧ (lo : Int) ≤ key .f32 x := by
    rcases h1 with h1 | h1
    · rw [cmp_gtr, k1.2] at h1
      simp only [Bool.and_eq_true, decide_eq_true_eq, Bool.not_eq_true'] at h1
      exact ⟨h1.1.1, by omega⟩
    · rw [cmp_geq, k1.2] at h1
      simp only [Bool.and_eq_true, decide_eq_true_eq, Bool.not_eq_true'] at h1
      exact ⟨h1.1.1, by omega⟩
  rw [cmp_gtr, hx.1, k2.1, k2.2] at h2
  simp only [Bool.not_false, Bool.true_and, decide_eq_false_iff_not] at h2
  have hk := hx.2
  rw [key32 hc] at hk h2
  split at hk
  · rename_i hs
    rw [if_pos hs] at h2
    omega
  · omega
def Share (t : Nat) : Prop := t ≤ 1065353216
theorem share_of {t : Nat} (h : shareB fops t = true) : Share t := by
  unfold shareB at h
  cases h1 : decide (t < 2139095040) with
  | false => rw [h1] at h; cases h
  | true =>
    rw [h1] at h
    have h2 := of_decide_eq_true h1
    have k1 := key_word (x := t) (by omega)
    have k2 := key_word (x := 1065353216) (by decide)
    simp only [cond_true] at h
    rw [cmp_leq, k1.1, k2.1, k1.2, k2.2] at h
    simp only [Bool.not_false, Bool.true_and, decide_eq_true_eq] at h
    unfold Share; omega
/-- What is left of a heat above 'lo'. -/
theorem less_word {x lo r : Nat} (h1 : lo ≤ x) (h2 : x ≤ 1153138688) (hr : un 1153138688 ≤ un r + un lo) : fops.bin .sub .f32 x lo ≤ r := by
  have fx := fin_small (x := x) (by omega)
  have fy := fin_small (x := lo) (by omega)
  obtain ⟨h3, h4⟩ := sub_form fx fy
  rw [val_small (x := x) (by omega), val_small (x := lo) (by omega)] at h3 h4
  have a1 : un lo ≤ un x := un_le h1
  have a2 : un x ≤ un 1153138688 := un_le h2
  refine word_of bin_cn ?_ (h3.le r ?_)
  · rcases Int.lt_or_le 0 ((units FloatKind.f32.format.binade x : Nat) - (units FloatKind.f32.format.binade lo : Nat) : Int) with h5 | h5
    · exact h3.pos h5
    · exact h4 (neg_small (by omega)) (by unfold un at a1; omega)
  · have e1 : units FloatKind.f32.format.binade x = un x := rfl
    have e2 : units FloatKind.f32.format.binade lo = un lo := rfl
    rw [e1, e2]
    generalize un x = p at *
    generalize un lo = q at *
    generalize un r = s at *
    generalize un 1153138688 = c at *
    omega
theorem Xd_le {h t : Nat} (h1 : 1120403456 ≤ h) (h2 : h ≤ 1153138688) (ht : Share t) : Xd fops h t ≤ 1077936128 := by
  unfold Xd
  have a := less_word (r := 1152319488) h1 h2 (by decide +kernel)
  have b := (mul_le (x := fops.bin .sub .f32 h 1120403456) (y := 990057071) (r := 1077936128) (by omega) (by decide) (Nat.le_trans (Nat.mul_le_mul_right _ (un_le a)) (by decide +kernel))).1
  unfold Share at ht
  exact (mul_le (r := 1077936128) (by omega) (by omega) (Nat.le_trans (Nat.mul_le_mul (un_le b) (un_le ht)) (by decide +kernel))).1
theorem Xb_le {h a t : Nat} (h1 : 1132068864 ≤ h) (h2 : h ≤ 1153138688) (ha : Share a) (ht : Share t) : Xb fops h a t ≤ 1073741824 := by
  unfold Xb
  have c := less_word (r := 1151090688) h1 h2 (by decide +kernel)
  have b := (mul_le (x := fops.bin .sub .f32 h 1132068864) (y := 981668463) (r := 1073741824) (by omega) (by decide) (Nat.le_trans (Nat.mul_le_mul_right _ (un_le c)) (by decide +kernel))).1
  unfold Share at ha ht
  have d := (mul_le (r := 1073741824) (by omega) (by omega : a < 2139095040) (Nat.le_trans (Nat.mul_le_mul (un_le b) (un_le ha)) (by decide +kernel))).1
  exact (mul_le (r := 1073741824) (by omega) (by omega) (Nat.le_trans (Nat.mul_le_mul (un_le d) (un_le ht)) (by decide +kernel))).1
theorem mn_eq {a x : Nat} (ha : a ≤ 2139095040) (hx : x ≤ 2139095040) : mnI fops a x = mnS fops a x := less_eq ha hx
theorem mn_le {a x : Nat} (ha : a ≤ 2139095040) (hx : x ≤ 2139095040) : mnI fops a x ≤ a := by
  unfold mnI
  have k1 := key_word ha
  have k2 := key_word hx
  rw [cmp_lss, k1.1, k2.1, k1.2, k2.2]
  by_cases h : a < x
  · rw [decide_eq_true (by omega : (a : Int) < x)]; exact Nat.le_refl _
  · rw [decide_eq_false (by omega : ¬ (a : Int) < x)]
    show x ≤ a
    omega
theorem cn_small {x : Nat} (h : x ≤ 2139095040) : Cn .f32 x := ⟨x, Nat.lt_of_le_of_lt h (by decide +kernel), by
  have := (key_word h).1
  unfold nanb at this
  simp [can, this]⟩
theorem bif_not {α : Type} (b : Bool) (x y : α) : (bif !b then x else y) = bif b then y else x := by cases b <;> rfl

section
variable {w : Nat → Nat} (hw : Inv w)
include hw
theorem hot_word {i : Nat} (hi : i < 6) (h : hot fops (w (6 + i)) = true) : 1120403456 ≤ w (6 + i) ∧ w (6 + i) ≤ 1153138688 :=
  between_words (hw.cn _ (by omega)) (by decide) (.inl h) (by decide) (hw.heat i hi)
theorem dI_le {t i : Nat} (hi : i < 6) (ht : Share t) (h : hot fops (w (6 + i)) = true) : dI fops w t i = dS fops w t i ∧ dI fops w t i ≤ w i := by
  obtain ⟨h1, h2⟩ := hot_word hw hi h
  have hx := Xd_le h1 h2 ht
  have ha := hw.wet i hi
  exact ⟨mn_eq (by omega) (by omega), mn_le (by omega) (by omega)⟩
theorem wet_eq {t i : Nat} (hi : i < 6) (ht : Share t) : wetI fops w t i = wetS fops w t i := by
  unfold wetI wetS
  rw [bif_not]
  cases h : hot fops (w (6 + i)) with
  | false => rfl
  | true => rw [(dI_le hw hi ht h).1]
theorem ht_eq {t i : Nat} (hi : i < 6) (ht : Share t) : htI fops w t i = htS fops w t i := by
  unfold htI htS
  rw [bif_not]
  cases h : hot fops (w (6 + i)) with
  | false => rfl
  | true => rw [(dI_le hw hi ht h).1]
theorem dry_eq {t : Nat} (ht : Share t) : dryI fops w t = dryS fops w t := by
  unfold dryI dryS
  rw [wet_eq hw (i := 0) (by decide) ht, wet_eq hw (i := 1) (by decide) ht, wet_eq hw (i := 2) (by decide) ht, wet_eq hw (i := 3) (by decide) ht, wet_eq hw (i := 4) (by decide) ht, wet_eq hw (i := 5) (by decide) ht,
    ht_eq hw (i := 0) (by decide) ht, ht_eq hw (i := 1) (by decide) ht, ht_eq hw (i := 2) (by decide) ht, ht_eq hw (i := 3) (by decide) ht, ht_eq hw (i := 4) (by decide) ht, ht_eq hw (i := 5) (by decide) ht]
end
/-- Sums of up to six numbers. -/
def tens : Nat → Nat
  | 0 => 0
  | 1 => 1092616192
  | 2 => 1101004800
  | 3 => 1106247680
  | 4 => 1109393408
  | 5 => 1112014848
  | _ => 1114636288
def heats : Nat → Nat
  | 0 => 0
  | 1 => 1195593728
  | 2 => 1203982336
  | 3 => 1209170944
  | 4 => 1212370944
  | 5 => 1215570944
  | _ => 1217559552
theorem tens_step (i : Nat) (hi : i < 6) : tens i < 2139095040 ∧ un (tens i) + un 1092616192 ≤ un (tens (i + 1)) := by
  match i, hi with
  | 0, _ => decide +kernel
  | 1, _ => decide +kernel
  | 2, _ => decide +kernel
  | 3, _ => decide +kernel
  | 4, _ => decide +kernel
  | 5, _ => decide +kernel
theorem heats_step (i : Nat) (hi : i < 6) : heats i < 2139095040 ∧ un (heats i) + un 1195593728 ≤ un (heats (i + 1)) := by
  match i, hi with
  | 0, _ => decide +kernel
  | 1, _ => decide +kernel
  | 2, _ => decide +kernel
  | 3, _ => decide +kernel
  | 4, _ => decide +kernel
  | 5, _ => decide +kernel
/-- A sum from nought on that leaves some out is the sum in which they count nought. -/
theorem sums_eq {off : Nat → Bool} {x : Nat → Nat} {B : Nat → Nat} {c : Nat} (hc : c < 2139095040) (hB : ∀ i, i < 6 → B i < 2139095040 ∧ un (B i) + un c ≤ un (B (i + 1))) (hx : ∀ i, i < 6 → off i = false → x i ≤ c) {A S : Nat → Nat}
    (hA0 : A 0 = 0) (hA : ∀ i, i < 6 → A (i + 1) = bif off i then A i else fops.bin .add .f32 (A i) (x i)) (hS0 : S 0 = bif off 0 then 0 else x 0) (hS : ∀ i, i + 1 < 6 → S (i + 1) = fops.bin .add .f32 (S i) (bif off (i + 1) then 0 else x (i + 1))) :
    ∀ i, i < 6 → A (i + 1) = S i ∧ S i ≤ B (i + 1) := by
  have b0 : ∀ i, i < 6 → B i ≤ B (i + 1) := fun i hi => by
    have := (hB i hi).2
    rcases Nat.lt_or_ge (B (i + 1)) (B i) with h | h
    · have : un (B (i + 1)) < un (B i) := units_lt (binade_pos .f32) h
      omega
    · exact h
  have c0 : c ≤ B 1 := by
    have := (hB 0 (by decide)).2
    rw [Nat.zero_add] at this
    rcases Nat.lt_or_ge (B 1) c with h | h
    · have : un (B 1) < un c := units_lt (binade_pos .f32) h
      omega
    · exact h
  intro i
  induction i with
  | zero =>
    intro h0
    rw [hA 0 h0, hS0, hA0]
    cases h : off 0 with
    | true => exact ⟨rfl, Nat.zero_le _⟩
    | false =>
      have h1 := hx 0 (by decide) h
      simp only [cond_false]
      exact ⟨(add_zero (cn_small (by omega)) (by omega)).2, Nat.le_trans h1 c0⟩
  | succ i ih =>
    intro hi
    obtain ⟨e1, e2⟩ := ih (by omega)
    have b1 := hB (i + 1) hi
    rw [hA _ hi, hS _ hi, e1]
    cases h : off (i + 1) with
    | true =>
      simp only [cond_true]
      exact ⟨(add_zero (cn_small (by omega)) (by omega)).1.symm, by rw [(add_zero (cn_small (by omega)) (by omega)).1]; exact Nat.le_trans e2 (b0 _ hi)⟩
    | false =>
      simp only [cond_false]
      exact ⟨trivial, add_amt e2 (hx (i + 1) hi h) b1.1 hc b1.2⟩
theorem on_off (w : Nat → Nat) (i : Nat) : onS fops w i = !offI fops w i := by
  unfold onS offI
  cases fops.cmp .geq .f32 (w (6 + i)) 1132068864 <;> cases fops.cmp .lss .f32 (w i) 1040187392 <;> rfl
section
variable {w : Nat → Nat} (hw : Inv w)
include hw
theorem steam_eq {t : Nat} (ht : Share t) : smI fops w t 6 = smS fops w t 5 ∧ smS fops w t 5 ≤ 1114636288 := by
  have hd : ∀ i, i < 6 → (bif hot fops (w (6 + i)) then dS fops w t i else 0) = bif !hot fops (w (6 + i)) then 0 else dI fops w t i := by
    intro i hi
    cases h : hot fops (w (6 + i)) with
    | false => rfl
    | true => exact (dI_le hw hi ht h).1.symm
  exact sums_eq (off := fun i => !hot fops (w (6 + i))) (x := dI fops w t) (B := tens) (c := 1092616192) (A := smI fops w t) (S := smS fops w t) (by decide) tens_step (fun i hi h => by
      have h' : hot fops (w (6 + i)) = true := by simpa using h
      exact Nat.le_trans (dI_le hw hi ht h').2 (hw.wet i hi)) rfl (fun i _ => rfl) (hd 0 (by decide)) (fun i hi => by
      show fops.bin .add .f32 (smS fops w t i) (bif hot fops (w (7 + i)) then dS fops w t (i + 1) else 0) = _
      rw [show 7 + i = 6 + (i + 1) by omega, hd (i + 1) hi]) 5 (by decide)
theorem on_word {i : Nat} (hi : i < 6) (h : offI fops w i = false) : 1132068864 ≤ w (6 + i) ∧ w (6 + i) ≤ 1153138688 := by
  unfold offI at h
  refine between_words (hw.cn _ (by omega)) (by decide) (.inr ?_) (by decide) (hw.heat i hi)
  cases h2 : fops.cmp .geq .f32 (w (6 + i)) 1132068864 with
  | true => rfl
  | false => rw [h2] at h; cases h
theorem buI_le {a t i : Nat} (hi : i < 6) (ha : Share a) (ht : Share t) (h : offI fops w i = false) : buI fops w a t i = buS fops w a t i ∧ buI fops w a t i ≤ w (12 + i) := by
  obtain ⟨h1, h2⟩ := on_word hw hi h
  have hx := Xb_le h1 h2 ha ht
  have ha := hw.fuel i hi
  exact ⟨mn_eq (by omega) (by omega), mn_le (by omega) (by omega)⟩
theorem bh_eq {a t i : Nat} (hi : i < 6) (ha : Share a) (ht : Share t) : bhI fops w a t i = bhS fops w a t i := by
  unfold bhI bhS
  rw [on_off w, bif_not]
  cases h : offI fops w i with
  | true => rfl
  | false =>
    rw [(buI_le hw hi ha ht h).1]
    simp only [cond_false]
    unfold mnS
    have : ∀ q c, fops.cmp .gtr .f32 q c = fops.cmp .lss .f32 c q := fun q c => by
      rw [cmp_gtr, cmp_lss, Bool.and_comm (!nanb .f32 q)]
    rw [this]
theorem fu_eq {a t i : Nat} (hi : i < 6) (ha : Share a) (ht : Share t) : fuI fops w a t i = fuS fops w a t i := by
  unfold fuI fuS
  rw [on_off w, bif_not]
  cases h : offI fops w i with
  | true => rfl
  | false => rw [(buI_le hw hi ha ht h).1]
theorem burn_eq {a t : Nat} (ha : Share a) (ht : Share t) : burnI fops w a t = burnS fops w a t := by
  unfold burnI burnS
  rw [bh_eq hw (i := 0) (by decide) ha ht, bh_eq hw (i := 1) (by decide) ha ht, bh_eq hw (i := 2) (by decide) ha ht, bh_eq hw (i := 3) (by decide) ha ht, bh_eq hw (i := 4) (by decide) ha ht, bh_eq hw (i := 5) (by decide) ha ht,
    fu_eq hw (i := 0) (by decide) ha ht, fu_eq hw (i := 1) (by decide) ha ht, fu_eq hw (i := 2) (by decide) ha ht, fu_eq hw (i := 3) (by decide) ha ht, fu_eq hw (i := 4) (by decide) ha ht, fu_eq hw (i := 5) (by decide) ha ht]
theorem burnt_eq {a t : Nat} (ha : Share a) (ht : Share t) : fsI fops w a t 6 = fsS fops w a t 5 ∧ fsS fops w a t 5 ≤ 1114636288 := by
  have hd : ∀ i, i < 6 → (bif onS fops w i then buS fops w a t i else 0) = bif offI fops w i then 0 else buI fops w a t i := by
    intro i hi
    rw [on_off w]
    cases h : offI fops w i with
    | true => rfl
    | false => exact (buI_le hw hi ha ht h).1.symm
  exact sums_eq (off := offI fops w) (x := buI fops w a t) (B := tens) (c := 1092616192) (A := fsI fops w a t) (S := fsS fops w a t) (by decide) tens_step (fun i hi h => Nat.le_trans (buI_le hw hi ha ht h).2 (hw.fuel i hi)) rfl (fun i _ => rfl) (hd 0 (by decide)) (fun i hi => by
      show fops.bin .add .f32 (fsS fops w a t i) (bif onS fops w (i + 1) then buS fops w a t (i + 1) else 0) = _
      rw [hd (i + 1) hi]) 5 (by decide)
theorem given_eq {a t : Nat} (ha : Share a) (ht : Share t) : hsI fops w a t 6 = hsS fops w a t 5 ∧ hsS fops w a t 5 ≤ 1217559552 := by
  have z : fops.bin .mul .f32 1167867904 0 = 0 := by decide +kernel
  have hd : ∀ i, i < 6 → fops.bin .mul .f32 1167867904 (bif onS fops w i then buS fops w a t i else 0) = bif offI fops w i then 0 else fops.bin .mul .f32 1167867904 (buI fops w a t i) := by
    intro i hi
    rw [on_off w]
    cases h : offI fops w i with
    | true => exact z
    | false => rw [(buI_le hw hi ha ht h).1]; rfl
  exact sums_eq (off := offI fops w) (x := fun i => fops.bin .mul .f32 1167867904 (buI fops w a t i)) (B := heats) (c := 1195593728) (A := hsI fops w a t) (S := hsS fops w a t) (by decide) heats_step (fun i hi h => by
      have h1 := Nat.le_trans (buI_le hw hi ha ht h).2 (hw.fuel i hi)
      exact (mul_le (r := 1195593728) (by decide) (by omega) (Nat.le_trans (Nat.mul_le_mul_left _ (un_le h1)) (by decide +kernel))).1) rfl (fun i _ => rfl) (hd 0 (by decide)) (fun i hi => by
      show fops.bin .add .f32 (hsS fops w a t i) (fops.bin .mul .f32 1167867904 (bif onS fops w (i + 1) then buS fops w a t (i + 1) else 0)) = _
      rw [hd (i + 1) hi]) 5 (by decide)
end

/-! ### what stays of it -/
theorem six_of {P : Nat → Prop} (h0 : P 0) (h1 : P 1) (h2 : P 2) (h3 : P 3) (h4 : P 4) (h5 : P 5) : ∀ i, i < 6 → P i := by
  intro i hi
  match i, hi with
  | 0, _ => exact h0
  | 1, _ => exact h1
  | 2, _ => exact h2
  | 3, _ => exact h3
  | 4, _ => exact h4
  | 5, _ => exact h5
theorem inv_mk {x y z : Nat → Nat} (hx : ∀ i, i < 6 → x i ≤ 1092616192) (hz : ∀ i, i < 6 → z i ≤ 1092616192) (hy : ∀ i, i < 6 → Cn .f32 (y i) ∧ fops.cmp .gtr .f32 (y i) 1153138688 = false) :
    Inv (fun j => [x 0, x 1, x 2, x 3, x 4, x 5, y 0, y 1, y 2, y 3, y 4, y 5, z 0, z 1, z 2, z 3, z 4, z 5].getD j 0) := by
  have cx : ∀ i, i < 6 → Cn .f32 (x i) := fun i hi => cn_small (by have := hx i hi; omega)
  have cz : ∀ i, i < 6 → Cn .f32 (z i) := fun i hi => cn_small (by have := hz i hi; omega)
  refine ⟨fun i hi => ?_, six_of (hx 0 (by decide)) (hx 1 (by decide)) (hx 2 (by decide)) (hx 3 (by decide)) (hx 4 (by decide)) (hx 5 (by decide)),
    six_of (hz 0 (by decide)) (hz 1 (by decide)) (hz 2 (by decide)) (hz 3 (by decide)) (hz 4 (by decide)) (hz 5 (by decide)),
    six_of (hy 0 (by decide)).2 (hy 1 (by decide)).2 (hy 2 (by decide)).2 (hy 3 (by decide)).2 (hy 4 (by decide)).2 (hy 5 (by decide)).2⟩
  match i, hi with
  | 0, _ => exact cx 0 (by decide)
  | 1, _ => exact cx 1 (by decide)
  | 2, _ => exact cx 2 (by decide)
  | 3, _ => exact cx 3 (by decide)
  | 4, _ => exact cx 4 (by decide)
  | 5, _ => exact cx 5 (by decide)
  | 6, _ => exact (hy 0 (by decide)).1
  | 7, _ => exact (hy 1 (by decide)).1
  | 8, _ => exact (hy 2 (by decide)).1
  | 9, _ => exact (hy 3 (by decide)).1
  | 10, _ => exact (hy 4 (by decide)).1
  | 11, _ => exact (hy 5 (by decide)).1
  | 12, _ => exact cz 0 (by decide)
  | 13, _ => exact cz 1 (by decide)
  | 14, _ => exact cz 2 (by decide)
  | 15, _ => exact cz 3 (by decide)
  | 16, _ => exact cz 4 (by decide)
  | 17, _ => exact cz 5 (by decide)
  | n + 18, h => exact absurd h (by omega)
theorem cn_const {x : Nat} (h : x < 4294967296) (hn : nanb .f32 x = false) : Cn .f32 x := ⟨x, Nat.lt_of_lt_of_le h (by decide +kernel), by
  unfold nanb at hn
  simp [can, hn]⟩
theorem held_ok {x : Nat} (hx : Cn .f32 x) : Cn .f32 (heldH fops x) ∧ fops.cmp .gtr .f32 (heldH fops x) 1153138688 = false := by
  unfold heldH
  cases h1 : fops.cmp .lss .f32 x 3262119936 with
  | true =>
      simp only [cond_true, cond_false]
      exact ⟨cn_const (by decide) (by decide +kernel), by decide +kernel⟩
  | false =>
    cases h2 : fops.cmp .gtr .f32 x 1153138688 with
    | true =>
      simp only [cond_true, cond_false]
      exact ⟨cn_const (by decide) (by decide +kernel), by decide +kernel⟩
    | false => exact ⟨hx, h2⟩
theorem warm_inv {w : Nat → Nat} (hw : Inv w) (a t : Nat) : Inv (warmW fops w a t) :=
  inv_mk (x := w) (y := heatW fops w a t) (z := fun i => w (12 + i)) hw.wet hw.fuel fun i _ => held_ok bin_cn
theorem mass_lt {x y : Nat} (hx : x ≤ 1092616192) (hy : y ≤ 1092616192) : mass fops x y < 2147483648 := by
  unfold mass
  have a := (mul_le (x := x) (y := 1082130432) (r := 1109393408) (by omega) (by decide) (Nat.le_trans (Nat.mul_le_mul_right _ (un_le hx)) (by decide +kernel))).1
  have b := (mul_le (x := y) (y := 1073741824) (r := 1101004800) (by omega) (by decide) (Nat.le_trans (Nat.mul_le_mul_right _ (un_le hy)) (by decide +kernel))).1
  have c := add_amt (r := 1114636288) a b (by decide) (by decide) (by decide +kernel)
  have d := add_amt (y := 1048576000) (b := 1048576000) (r := 1114898432) c (Nat.le_refl _) (by decide) (by decide) (by decide +kernel)
  omega
theorem dry_inv {w : Nat → Nat} (hw : Inv w) {t : Nat} (ht : Share t) : Inv (dryI fops w t) := by
  refine inv_mk (x := wetI fops w t) (y := htI fops w t) (z := fun i => w (12 + i)) (fun i hi => ?_) hw.fuel fun i hi => ?_
  · unfold wetI
    cases h : hot fops (w (6 + i)) with
    | false => exact hw.wet i hi
    | true =>
      have h1 := hw.wet i hi
      exact Nat.le_trans (sub_amt (by omega) (dI_le hw hi ht h).2) h1
  · unfold htI
    cases h : hot fops (w (6 + i)) with
    | false => exact ⟨hw.cn _ (by omega), hw.heat i hi⟩
    | true =>
      simp only [Bool.not_true, cond_false]
      unfold dryH
      cases h2 : fops.cmp .lss .f32 (fops.bin .sub .f32 (w (6 + i)) (fops.bin .quo .f32 (fops.bin .mul .f32 1157234688 (dI fops w t i)) (mass fops (w i) (w (12 + i))))) 1120403456 with
      | true =>
      simp only [cond_true, cond_false]
      exact ⟨cn_const (by decide) (by decide +kernel), by decide +kernel⟩
      | false =>
        have h3 := (dI_le hw hi ht h).2
        have h4 := hw.wet i hi
        have h5 := mul_pos (x := 1157234688) (y := dI fops w t i) (by decide) (by omega)
        exact ⟨bin_cn, sub_not_gt (hot_word hw hi h).2 (by decide) (quo_pos h5 (mass_lt h4 (hw.fuel i hi)))⟩
theorem burn_inv {w : Nat → Nat} (hw : Inv w) {a t : Nat} (ha : Share a) (ht : Share t) : Inv (burnI fops w a t) := by
  refine inv_mk (x := w) (y := bhI fops w a t) (z := fuI fops w a t) hw.wet (fun i hi => ?_) fun i hi => ?_
  · unfold fuI
    cases h : offI fops w i with
    | true => exact hw.fuel i hi
    | false =>
      have h1 := hw.fuel i hi
      exact Nat.le_trans (sub_amt (by omega) (buI_le hw hi ha ht h).2) h1
  · unfold bhI
    cases h : offI fops w i with
    | true => exact ⟨hw.cn _ (by omega), hw.heat i hi⟩
    | false =>
      simp only [cond_false]
      cases h2 : fops.cmp .gtr .f32 (bq fops (buI fops w a t i) (w (6 + i)) (mass fops (w i) (w (12 + i)))) 1153138688 with
      | true =>
      simp only [cond_true, cond_false]
      exact ⟨cn_const (by decide) (by decide +kernel), by decide +kernel⟩
      | false => exact ⟨bin_cn, h2⟩
/-- What flows in is at most half of all if it is a number. -/
theorem flow_bd {w : Nat → Nat} {a t : Nat} (ht : Share t) (h : isNum (flow fops w a t 0) = true) : Bd (flow fops w a t 0) 2130706431 := by
  unfold flow at h ⊢
  have h1 := (mul_num h).1
  have h2 := (mul_num h1).2
  unfold Share at ht
  have h3 := Bd.mul (x := 1056964608) (a := 1056964608) (r := 2130706431) (bd_small (Nat.le_refl _) (by decide)) (num_bd h2) (by decide) (by decide +kernel)
  exact Bd.mul h3 (bd_small ht (by decide)) (by decide) (by decide +kernel)
/-- The numbers of a step are finite if what flows in is. -/
theorem step_num {w v : Nat → Nat} (hv : Inv v) {a b t : Nat} (ha : Share a) (ht : Share t) (h : isNum (flow fops w b t 0) = true) : isNum (fops.bin .sub .f32 (hsI fops v a t 6) (flow fops w b t 0)) = true := by
  have h1 := (given_eq hv ha ht).1
  have h2 := (given_eq hv ha ht).2
  rw [h1]
  exact (Bd.sub (bd_small h2 (by decide)) (flow_bd ht h) (r := 2139095039) (by decide) (by decide +kernel)).num
theorem back_cn {w : Nat → Nat} (hc : ∀ i, i < 18 → Cn .f32 (w i)) : ∀ i, i < 18 → Cn .f32 (back w i) := by
  intro i hi
  match i, hi with
  | 0, h => exact hc 0 h
  | 1, h => exact hc 1 h
  | 2, h => exact hc 2 h
  | 3, h => exact hc 3 h
  | 4, h => exact hc 4 h
  | 5, h => exact hc 5 h
  | 6, h => exact hc 6 h
  | 7, h => exact hc 7 h
  | 8, h => exact hc 8 h
  | 9, h => exact hc 9 h
  | 10, h => exact hc 10 h
  | 11, h => exact hc 11 h
  | 12, h => exact hc 12 h
  | 13, h => exact hc 13 h
  | 14, h => exact hc 14 h
  | 15, h => exact hc 15 h
  | 16, h => exact hc 16 h
  | 17, h => exact hc 17 h
  | n + 18, h => exact absurd h (by omega)
theorem word_num {x : Nat} (h : x ≤ 1114636288) : isNum x = true := (fin_small (by omega)).num
end Go.Proofs.Ytngdmcbjponlhaa
end

/- A log's step. Nothing is assumed. -/
section
namespace Go.Proofs.Ytngdmcbjponlhaa
open Go
noncomputable section
section
variable (O : FOps) (w : Nat → Nat) (r a t : Nat)
def w1I : Nat → Nat := back (warmW O w r t)
def w2I : Nat → Nat := back (dryI O (w1I O w r t) t)
def w3I : Nat → Nat := burnI O (w2I O w r t) a t
def inI : Nat := flow O w r t 0
def htF : Nat := O.bin .sub .f32 (hsI O (w2I O w r t) a t 6) (inI O w r t)
def smF : Nat := smI O (w1I O w r t) t 6
def fuF : Nat := fsI O (w2I O w r t) a t 6
def okF (nm : Nat → Bool) : Bool := allB nm [inI O w r t, htF O w r a t, smF O w r t, fuF O w r a t]
def badF (nm : Nat → Bool) : Bool := !decide ((bif !nm (inI O w r t) then (4 : Int) else 0) = 0)
def w1S (nm : Nat → Bool) : Nat → Nat := back fun i => bif !nm (inI O w r t) then 0 else warmW O w r t i
def inS (nm : Nat → Bool) : Nat := bif !nm (inI O w r t) then 0 else inI O w r t
def w2S (nm : Nat → Bool) : Nat → Nat := back (dryS O (w1S O w r t nm) t)
def w3S (nm : Nat → Bool) : Nat → Nat := burnS O (w2S O w r t nm) a t
end
def stepG (O : FOps) (nm : Nat → Bool) : List SV → Option SV
  | [v, .c (.flt .f32 r), .c (.flt .f32 a), .c (.flt .f32 t)] => match wdOf v with
    | some w => some (.tup [.a (wdL (w3I O w r a t)), .c (.flt .f32 (htF O w r a t)), .c (.flt .f32 (smF O w r t)), .c (.flt .f32 (fuF O w r a t)), .c (.bool (.s (okF O w r a t nm)))])
    | none => none
  | _ => none
def stepSv (O : FOps) (nm : Nat → Bool) (w : Nat → Nat) (r a t : Nat) : SV :=
  .tup [.a (wdL fun i => bif badF O w r t nm then 0 else w3S O w r a t nm i), .c (.flt .f32 (bif badF O w r t nm then 0 else O.bin .sub .f32 (hsS O (w2S O w r t nm) a t 5) (inS O w r t nm))),
    .c (.flt .f32 (bif badF O w r t nm then 0 else smS O (w1S O w r t nm) t 5)), .c (.flt .f32 (bif badF O w r t nm then 0 else fsS O (w2S O w r t nm) a t 5)), .c (.int .i64 (.s (bif badF O w r t nm then (bif !nm (inI O w r t) then 4 else 0) else 0)))]
def stepSG (O : FOps) (nm : Nat → Bool) : List SV → Option SV
  | [v, .c (.flt .f32 r), .c (.flt .f32 a), .c (.flt .f32 t)] => match wdOf v with
    | some w => some (stepSv O nm w r a t)
    | none => none
  | _ => none
def LP (O : FOps) (nm : Nat → Bool) : List (Nat × CS) := [(80, gQ [.s 1] (finG nm)), (87, gS (fin1G nm)),
  (106, gS (dryG O dryI (fun O w t => smI O w t 6))), (101, gQ [.p 18, .v] (dryG O dryS (fun O w t => smS O w t 5))),
  (107, gS (burnG O burnI (fun O w a t => hsI O w a t 6) (fun O w a t => fsI O w a t 6))), (102, gQ [.p 18, .v, .v] (burnG O burnS (fun O w a t => hsS O w a t 5) (fun O w a t => fsS O w a t 5))),
  (105, gS (warmG O)), (100, gQ [.p 18, .v, .v] (warmSG O nm))]
set_option maxRecDepth 100000 in
theorem okLP : AllOK Try.prog (LP fops isNum) := ⟨cFin, cFinL, cDryI, cDryS, cBurnI, cBurnS, cWarmI, cWarmS, trivial⟩
set_option maxRecDepth 100000 in
theorem cStepI_run (O : FOps) (nm : Nat → Bool) (w : Nat → Nat) (r a t : Nat) : rE 1 (inl ⟨Try.prog, O, orcN Try.prog O (LP O nm) 8⟩ Try.f94 ⟨fun _ => none, fun _ => none⟩ 1 [wd w, .c (.flt .f32 r), .c (.flt .f32 a), .c (.flt .f32 t)] []) =
    some (.tup [.a (wdL (w3I O (back w) r a t)), .c (.flt .f32 (htF O (back w) r a t)), .c (.flt .f32 (smF O (back w) r t)), .c (.flt .f32 (fuF O (back w) r a t)), .c (.bool (.s (okF O (back w) r a t nm)))], []) := by kernel_rfl
set_option maxRecDepth 100000 in
theorem cStepS_run (O : FOps) (nm : Nat → Bool) (w : Nat → Nat) (r a t : Nat) : rE 2 (inl ⟨Try.prog, O, orcN Try.prog O (LP O nm) 8⟩ Try.f90 ⟨fun _ => none, fun _ => none⟩ 2 [.c (.ptr 1 0), .c (.flt .f32 r), .c (.flt .f32 a), .c (.flt .f32 t)] [(1, ⟨false, false, .cells (wdL w)⟩)]) =
    some (stepSv O nm (back w) r a t, []) := by kernel_rfl
theorem wdOf_back {v : SV} {w : Nat → Nat} (h : wdOf v = some w) : back w = w := by
  unfold wdOf at h
  split at h <;> try (cases h; done)
  split at h <;> try (cases h; done)
  rename_i xs hx
  split at h <;> cases h
  rename_i hl
  match xs, beqN.1 hl with
  | [a0, a1, a2, a3, a4, a5, a6, a7, a8, a9, a10, a11, a12, a13, a14, a15, a16, a17], _ => rfl
set_option maxRecDepth 100000 in
theorem cStepI : CallOK Try.prog 94 (gS (stepG fops isNum)) :=
  gS_of2 (inlN_of (l := LP fops isNum) okLP mixed 8 Try.func94 (by kernel_rfl) (fun _ => none)) fun args x E vals hG hr => by
    unfold stepG at hG
    split at hG <;> try (cases hG; done)
    split at hG <;> cases hG
    rename_i w hw
    rw [wdOf_ok hw]
    refine ⟨rfl, _, _, cStepI_run fops isNum w _ _ _, rfl, AllT.nil, fun _ _ h => ?_⟩
    rw [wdOf_back hw] at h; exact h
set_option maxRecDepth 100000 in
theorem cStepS : CallOK Try.prog 90 (gQ [.p 18, .v, .v, .v] (stepSG fops isNum)) :=
  gQ_of2 (inlN_of (l := LP fops isNum) okLP mixed 8 Try.func90 (by kernel_rfl) (fun _ => none)) fun dl x E hG hv => by
    unfold stepSG at hG
    split at hG <;> try (cases hG; done)
    split at hG <;> cases hG
    rename_i w hw
    rw [wdOf_ok hw]
    refine ⟨_, _, cStepS_run fops isNum w _ _ _, rfl, AllT.nil, fun _ _ h => ?_⟩
    rw [wdOf_back hw] at h; exact h
end
/-! ### both are the same -/
theorem back_back (w : Nat → Nat) : back (back w) = back w := rfl
theorem inv_back {w : Nat → Nat} (h : Inv w) : Inv (back w) := by
  refine ⟨back_cn h.cn, fun i hi => ?_, fun i hi => ?_, fun i hi => ?_⟩
  · match i, hi with
    | 0, _ => exact h.wet 0 (by decide)
    | 1, _ => exact h.wet 1 (by decide)
    | 2, _ => exact h.wet 2 (by decide)
    | 3, _ => exact h.wet 3 (by decide)
    | 4, _ => exact h.wet 4 (by decide)
    | 5, _ => exact h.wet 5 (by decide)
    | n + 6, h => exact absurd h (by omega)
  · match i, hi with
    | 0, _ => exact h.fuel 0 (by decide)
    | 1, _ => exact h.fuel 1 (by decide)
    | 2, _ => exact h.fuel 2 (by decide)
    | 3, _ => exact h.fuel 3 (by decide)
    | 4, _ => exact h.fuel 4 (by decide)
    | 5, _ => exact h.fuel 5 (by decide)
    | n + 6, h => exact absurd h (by omega)
  · match i, hi with
    | 0, _ => exact h.heat 0 (by decide)
    | 1, _ => exact h.heat 1 (by decide)
    | 2, _ => exact h.heat 2 (by decide)
    | 3, _ => exact h.heat 3 (by decide)
    | 4, _ => exact h.heat 4 (by decide)
    | 5, _ => exact h.heat 5 (by decide)
    | n + 6, h => exact absurd h (by omega)
/-- What a step is, in plain terms: 'F' says whether what flows in is finite. -/
def stepV (F : Bool) (w : Nat → Nat) (h s f : Nat) : SV :=
  .tup [.a (wdL fun i => bif !F then 0 else w i), .c (.flt .f32 (bif !F then 0 else h)), .c (.flt .f32 (bif !F then 0 else s)), .c (.flt .f32 (bif !F then 0 else f)), .c (.int .i64 (.s (bif !F then 4 else 0)))]
section
variable {w : Nat → Nat} (hw : Inv w) {r a t : Nat} (ha : Share a) (ht : Share t)
include hw
theorem inv1 : Inv (w1I fops w r t) := inv_back (warm_inv hw r t)
include ht
theorem inv2 : Inv (w2I fops w r t) := inv_back (dry_inv (inv1 hw) ht)
include ha
theorem inv3 : Inv (w3I fops w r a t) := burn_inv (inv2 hw ht) ha ht
theorem ok_eq : okF fops w r a t isNum = isNum (inI fops w r t) := by
  unfold okF
  show (bif isNum _ then bif isNum _ then bif isNum _ then bif isNum _ then true else false else false else false else false) = _
  cases h : isNum (inI fops w r t) with
  | false => rfl
  | true =>
    have h1 : isNum (htF fops w r a t) = true := step_num (inv2 hw ht) ha ht h
    have h2 : isNum (smF fops w r t) = true := by
      have := steam_eq (inv1 (r := r) (t := t) hw) ht
      unfold smF; rw [this.1]; exact word_num this.2
    have h3 : isNum (fuF fops w r a t) = true := by
      have := burnt_eq (inv2 (r := r) hw ht) ha ht
      unfold fuF; rw [this.1]; exact word_num this.2
    rw [h1, h2, h3]; rfl
theorem step_eq : stepSv fops isNum w r a t = stepV (isNum (inI fops w r t)) (w3I fops w r a t) (htF fops w r a t) (smF fops w r t) (fuF fops w r a t) := by
  cases h : isNum (inI fops w r t) with
  | false =>
    have hb : badF fops w r t isNum = true := by unfold badF; rw [h]; rfl
    unfold stepSv stepV
    rw [hb, h]
    simp only [Bool.not_false, cond_true]
  | true =>
    have hb : badF fops w r t isNum = false := by unfold badF; rw [h]; rfl
    unfold stepSv stepV
    rw [hb]
    simp only [Bool.not_true, cond_false]
    have e1 : w1S fops w r t isNum = w1I fops w r t := by
      unfold w1S w1I
      rw [h]; rfl
    have e2 : w2S fops w r t isNum = w2I fops w r t := by
      unfold w2S w2I
      rw [e1, dry_eq (inv1 hw) ht]
    have e3 : w3S fops w r a t isNum = w3I fops w r a t := by
      unfold w3S w3I
      rw [e2, burn_eq (inv2 hw ht) ha ht]
    have e4 : inS fops w r t isNum = inI fops w r t := by unfold inS; rw [h]; rfl
    rw [e1, e2, e3, e4, ← (given_eq (inv2 (r := r) hw ht) ha ht).1, ← (steam_eq (inv1 (r := r) (t := t) hw) ht).1, ← (burnt_eq (inv2 (r := r) hw ht) ha ht).1]
    unfold htF smF fuF
    rfl
end
end Go.Proofs.Ytngdmcbjponlhaa
end

/- A step of a log, told of where it is known what a log is. Nothing is assumed. -/
section
namespace Go.Proofs.Ytngdmcbjponlhaa.Lgc
open Go
noncomputable section
/-! ### a step, told of where it is known what a log is -/
noncomputable def okStep (w : Nat → Nat) (a t : Nat) : Bool := pB (Inv w ∧ Share a ∧ Share t)
noncomputable def gSo (G : List SV → Option (SV × List Bool)) : CS := fun base args rd => match rd with
  | [] => match G args with
    | some r => some ⟨r.1, [], base, r.2⟩
    | none => none
  | _ :: _ => none
noncomputable def gQo (sh : List Shp) (G : List SV → Option (SV × List Bool)) : CS := fun base args rd =>
  bindO (derefS rd sh args) fun d => bindO (G d.1) fun r => some ⟨r.1, [], base, d.2 ++ r.2⟩
theorem gSo_ok {P : Program} {f : FuncId} {G0 : List SV → Option SV} (h : CallOK P f (gS G0)) {G : List SV → Option (SV × List Bool)} (hG : ∀ args r, G args = some r → AllT r.2 → G0 args = some r.1) : CallOK P f (gSo G) :=
  CallOK.hand h fun b args rd e he hob => by
    unfold gSo at he
    split at he <;> try (cases he; done)
    split at he <;> cases he
    rename_i r hr
    refine ⟨[], ?_, AllT.nil⟩
    unfold gS
    simp only [hG args r hr hob]
theorem gQo_ok {P : Program} {f : FuncId} {sh : List Shp} {G0 : List SV → Option SV} (h : CallOK P f (gQ sh G0)) {G : List SV → Option (SV × List Bool)} (hG : ∀ args r, G args = some r → AllT r.2 → G0 args = some r.1) : CallOK P f (gQo sh G) :=
  CallOK.hand h fun b args rd e he hob => by
    unfold gQo at he
    obtain ⟨d, hd, he⟩ := bindO_some he
    obtain ⟨r, hr, he⟩ := bindO_some he
    cases he
    obtain ⟨h1, h2⟩ := hob.append
    refine ⟨d.2, ?_, h1⟩
    unfold gQ
    simp only [bindO, hd, hG d.1 r hr h2]
noncomputable def nw (O : FOps) (w : Nat → Nat) (r a t : Nat) : Nat → Nat := w3I O w r a t
noncomputable def okN (O : FOps) (nm : Nat → Bool) (w : Nat → Nat) (r t : Nat) : Bool := nm (inI O w r t)
noncomputable def gI (O : FOps) (nm : Nat → Bool) : List SV → Option (SV × List Bool)
  | [v, .c (.flt .f32 r), .c (.flt .f32 a), .c (.flt .f32 t)] => match wdOf v with
    | some w => some (.tup [.a (wdL (nw O w r a t)), .c (.flt .f32 (htF O w r a t)), .c (.flt .f32 (smF O w r t)), .c (.flt .f32 (fuF O w r a t)), .c (.bool (.s (okN O nm w r t)))], [okStep w a t])
    | none => none
  | _ => none
noncomputable def gSp (O : FOps) (nm : Nat → Bool) : List SV → Option (SV × List Bool)
  | [v, .c (.flt .f32 r), .c (.flt .f32 a), .c (.flt .f32 t)] => match wdOf v with
    | some w => some (stepV (okN O nm w r t) (nw O w r a t) (htF O w r a t) (smF O w r t) (fuF O w r a t), [okStep w a t])
    | none => none
  | _ => none
set_option maxRecDepth 100000 in
theorem cI : CallOK Try.prog 94 (gSo (gI fops isNum)) := gSo_ok cStepI fun args r hr hob => by
  unfold gI at hr
  split at hr <;> try (cases hr; done)
  split at hr <;> cases hr
  rename_i w hw
  obtain ⟨h1, h2, h3⟩ := pB_iff.1 hob.head
  unfold stepG
  simp only [hw]
  rw [ok_eq h1 h2 h3]
  rfl
set_option maxRecDepth 100000 in
theorem cS : CallOK Try.prog 90 (gQo [.p 18, .v, .v, .v] (gSp fops isNum)) := gQo_ok cStepS fun args r hr hob => by
  unfold gSp at hr
  split at hr <;> try (cases hr; done)
  split at hr <;> cases hr
  rename_i w hw
  obtain ⟨h1, h2, h3⟩ := pB_iff.1 hob.head
  unfold stepSG
  simp only [hw]
  rw [step_eq h1 h2 h3]
  rfl
end
end Go.Proofs.Ytngdmcbjponlhaa.Lgc
end

/- Loops in general: a search, a sum. Nothing is assumed. -/
section
namespace Go.Proofs.Ytngdmcbjponlhaa
open Go
section
variable {cx : Cx} {N : Nat} {lp : Nat → Option (List Ly → Top → Option Outs)} {x : Code} {nx0 mx : Nat} {sk : Sk}
/-- One round leads from 'p' to 'q'. -/
def Goes (cx : Cx) (N : Nat) (lp : Nat → Option (List Ly → Top → Option Outs)) (x : Code) (nx0 mx : Nat) (sk skE : Sk) (p : List LD) (k : Option XK) (q : List LD) : Prop :=
  ∃ ts ρ ob, (goL cx N ⟨ts, lp⟩ x nx0 mx sk ρ skE p = some (k, q, ob) ∨ ∃ j, goJ cx N ⟨ts, lp⟩ x j nx0 mx sk ρ skE p = some (k, q, ob)) ∧ AllT ob
theorem Goes.mk {skE : Sk} {p q : List LD} {k : Option XK} (ts : Nat → Option Bool) {ρ : List (Nat × Nat)} {ob : List Bool} (h : goL cx N ⟨ts, lp⟩ x nx0 mx sk ρ skE p = some (k, q, ob)) (ho : AllT ob) : Goes cx N lp x nx0 mx sk skE p k q := ⟨ts, ρ, ob, .inl h, ho⟩
theorem Goes.mkJ {skE : Sk} {p q : List LD} {k : Option XK} (ts : Nat → Option Bool) (j : Nat) {ρ : List (Nat × Nat)} {ob : List Bool} (h : goJ cx N ⟨ts, lp⟩ x j nx0 mx sk ρ skE p = some (k, q, ob)) (ho : AllT ob) : Goes cx N lp x nx0 mx sk skE p k q := ⟨ts, ρ, ob, .inr ⟨j, h⟩, ho⟩
theorem Goes.step {p q : List LD} (h : Goes cx N lp x nx0 mx sk sk p none q) {xk : XK} {skE : Sk} {pE : List LD} (hl : Loops cx N lp x nx0 mx sk q xk skE pE) : Loops cx N lp x nx0 mx sk p xk skE pE := by
  obtain ⟨ts, ρ, ob, h1 | ⟨j, h1⟩, h2⟩ := h
  · exact .step h1 h2 hl
  · exact .stepJ h1 h2 hl
theorem Goes.done {p q : List LD} {xk : XK} {skE : Sk} (h : Goes cx N lp x nx0 mx sk skE p (some xk) q) : Loops cx N lp x nx0 mx sk p xk skE q := by
  obtain ⟨ts, ρ, ob, h1 | ⟨j, h1⟩, h2⟩ := h
  · exact .done h1 h2
  · exact .doneJ h1 h2
/-- A search: all rounds say yes, or one says no. -/
theorem scan_loops {skE skR : Sk} {D : Int → List LD} {E R : List LD} {q : Int → Bool} {n : Int} {xE xR : XK}
    (h1 : ∀ k, 0 ≤ k → k < n → q k = true → Goes cx N lp x nx0 mx sk sk (D k) none (D (k + 1)))
    (h2 : ∀ k, 0 ≤ k → k < n → q k = false → Goes cx N lp x nx0 mx sk skR (D k) (some xR) R)
    (h3 : Goes cx N lp x nx0 mx sk skE (D n) (some xE) E) : ∀ (m : Nat) (k : Int), 0 ≤ k → k + m = n →
    (eqFrom q k m = true → Loops cx N lp x nx0 mx sk (D k) xE skE E) ∧ (eqFrom q k m = false → Loops cx N lp x nx0 mx sk (D k) xR skR R) := by
  intro m
  induction m with
  | zero =>
    intro k hk hkn
    have e : k = n := by omega
    subst e
    exact ⟨fun _ => h3.done, fun h => by cases h⟩
  | succ m ih =>
    intro k hk hkn
    obtain ⟨i1, i2⟩ := ih (k + 1) (by omega) (by omega)
    have hE : eqFrom q k (m + 1) = bif q k then eqFrom q (k + 1) m else false := rfl
    rw [hE]
    cases hq : q k with
    | true => exact ⟨fun h => (h1 k hk (by omega) hq).step (i1 h), fun h => (h1 k hk (by omega) hq).step (i2 h)⟩
    | false => exact ⟨fun h => (by cases h), fun _ => (h2 k hk (by omega) hq).done⟩
/-- 'f' done 'm' times, from 'k' on. -/
def foldFrom {S : Type} (f : Int → S → S) : Int → Nat → S → S
  | _, 0, s => s
  | k, m + 1, s => foldFrom f (k + 1) m (f k s)
theorem fold_loops {S : Type} {skE : Sk} {D : Int → S → List LD} {E : S → List LD} {f : Int → S → S} {n : Int} {xE : XK}
    (h1 : ∀ k s, 0 ≤ k → k < n → Goes cx N lp x nx0 mx sk sk (D k s) none (D (k + 1) (f k s)))
    (h3 : ∀ s, Goes cx N lp x nx0 mx sk skE (D n s) (some xE) (E s)) : ∀ (m : Nat) (k : Int) (s : S), 0 ≤ k → k + m = n →
    Loops cx N lp x nx0 mx sk (D k s) xE skE (E (foldFrom f k m s)) := by
  intro m
  induction m with
  | zero =>
    intro k s hk hkn
    have e : k = n := by omega
    subst e
    exact (h3 s).done
  | succ m ih =>
    intro k s hk hkn
    exact (h1 k s hk (by omega)).step (ih (k + 1) (f k s) (by omega) (by omega))
end
theorem eqFrom_congr {q q' : Int → Bool} : ∀ (m : Nat) (k : Int), (∀ j, k ≤ j → j < k + m → q j = q' j) → eqFrom q k m = eqFrom q' k m
  | 0, _, _ => rfl
  | m + 1, k, h => by
    show (bif q k then eqFrom q (k + 1) m else false) = (bif q' k then eqFrom q' (k + 1) m else false)
    rw [h k (by omega) (by omega), eqFrom_congr m (k + 1) (fun j h1 h2 => h j (by omega) (by omega))]
theorem eqFrom_at {q : Int → Bool} : ∀ {m : Nat} {k : Int}, eqFrom q k m = true → ∀ j, k ≤ j → j < k + m → q j = true
  | 0, k, _, j, h1, h2 => by omega
  | m + 1, k, h, j, h1, h2 => by
    have h' : (bif q k then eqFrom q (k + 1) m else false) = true := h
    cases hq : q k with
    | false => rw [hq] at h'; cases h'
    | true =>
      rw [hq] at h'
      by_cases e : j = k
      · rw [e]; exact hq
      · exact eqFrom_at (q := q) (m := m) (k := k + 1) h' j (by omega) (by omega)
theorem foldFrom_congr {S : Type} {f g : Int → S → S} : ∀ (m : Nat) (k : Int) (s : S), (∀ j s, k ≤ j → j < k + m → f j s = g j s) → foldFrom f k m s = foldFrom g k m s
  | 0, _, _, _ => rfl
  | m + 1, k, s, h => by
    show foldFrom f (k + 1) m (f k s) = foldFrom g (k + 1) m (g k s)
    rw [h k s (by omega) (by omega), foldFrom_congr m (k + 1) _ (fun j t h1 h2 => h j t (by omega) (by omega))]
theorem AllT.one' {b : Bool} (h : b = true) : AllT [b] := AllT.cons h AllT.nil
theorem AllT.iffApp {l m : List Bool} : AllT (l ++ m) ↔ AllT l ∧ AllT m := ⟨fun h => h.append, fun h => AllT.app h.1 h.2⟩
/-- Within bounds. -/
noncomputable def bd (n k : Int) : Bool := decide (0 ≤ k ∧ k < n)
theorem bd_ok {n k : Int} (h0 : 0 ≤ k) (h1 : k < n) : bd n k = true := by unfold bd; simp; omega
noncomputable def hints (l : List (Nat × Bool)) (t : Nat) : Option Bool := List.rec (motive := fun _ => Option Bool) none (fun p _ ih => bif Nat.beq t p.1 then some p.2 else ih) l
end Go.Proofs.Ytngdmcbjponlhaa
end

/- A step of a stove: the rounds. Nothing is assumed. -/
section
namespace Go.Proofs.Ytngdmcbjponlhaa.Fir
open Go SlWood Stv Sto Lgc
noncomputable section
/-! ### a log's step that goes well -/
def okS (O : FOps) (w : Nat → Nat) (r a t : Nat) : Bool := pB (Inv w ∧ Share a ∧ Share t ∧ isNum (inI O w r t) = true)
def gI1 (O : FOps) : List SV → Option (SV × List Bool)
  | [v, .c (.flt .f32 r), .c (.flt .f32 a), .c (.flt .f32 t)] => match wdOf v with
    | some w => some (.tup [.a (wdL (nw O w r a t)), .c (.flt .f32 (htF O w r a t)), .c (.flt .f32 (smF O w r t)), .c (.flt .f32 (fuF O w r a t)), .c (.bool .t)], [okS O w r a t])
    | none => none
  | _ => none
def gS1 (O : FOps) : List SV → Option (SV × List Bool)
  | [v, .c (.flt .f32 r), .c (.flt .f32 a), .c (.flt .f32 t)] => match wdOf v with
    | some w => some (.tup [.a (wdL (nw O w r a t)), .c (.flt .f32 (htF O w r a t)), .c (.flt .f32 (smF O w r t)), .c (.flt .f32 (fuF O w r a t)), .c (.int .i64 (.c 0))], [okS O w r a t])
    | none => none
  | _ => none
theorem relEs_last {E : EM} {x y : SE} (h : ∀ v, RelE E x v → RelE E y v) : ∀ {l : List SE} {vs : List Value}, RelEs E (l ++ [x]) vs → RelEs E (l ++ [y]) vs
  | [], [v], hv => ⟨h v hv.1, trivial⟩
  | [], [], hv => hv.elim
  | [], _ :: _ :: _, hv => hv.2.elim
  | _ :: _, [], hv => hv.elim
  | _ :: l, v :: vs, hv => ⟨hv.1, relEs_last h (l := l) hv.2⟩
set_option maxRecDepth 100000 in
theorem cI1 : CallOK Try.prog 94 (gSo (gI1 fops)) := cI.weak fun base args rd e E vals hs hob hargs => by
  unfold gSo at hs
  split at hs <;> try (cases hs; done)
  split at hs <;> cases hs
  rename_i x hx
  unfold gI1 at hx
  split at hx <;> try (cases hx; done)
  rename_i v r a t
  split at hx <;> cases hx
  rename_i w hw
  obtain ⟨h1, h2, h3, h4⟩ := pB_iff.1 (show okS fops w r a t = true from hob.head)
  refine ⟨⟨.tup [.a (wdL (nw fops w r a t)), .c (.flt .f32 (htF fops w r a t)), .c (.flt .f32 (smF fops w r t)), .c (.flt .f32 (fuF fops w r a t)), .c (.bool (.s (okN fops isNum w r t)))], [], base, [okStep w a t]⟩, ?_, AllT.one' (pB_iff.2 ⟨h1, h2, h3⟩), fun E v hv => ?_, rfl, Nat.le_refl _, Nat.le_refl _⟩
  · unfold gSo gI
    simp only [hw]
  · have : okN fops isNum w r t = true := h4
    rw [this] at hv
    obtain ⟨vs, e, h⟩ := hv
    exact ⟨vs, e, relEs_last (l := [SE.a (wdL (nw fops w r a t)), SE.c (SC.flt FloatKind.f32 (htF fops w r a t)), SE.c (SC.flt FloatKind.f32 (smF fops w r t)), SE.c (SC.flt FloatKind.f32 (fuF fops w r a t))]) (x := .c (.bool (.s true))) (y := .c (.bool .t)) (fun v h => h) h⟩
set_option maxRecDepth 100000 in
theorem cS1 : CallOK Try.prog 90 (gQo [.p 18, .v, .v, .v] (gS1 fops)) := cS.weak fun base args rd e E vals hs hob hargs => by
  unfold gQo at hs
  obtain ⟨d, hd, hs⟩ := bindO_some hs
  obtain ⟨x, hx, hs⟩ := bindO_some hs
  cases hs
  obtain ⟨ho1, ho2⟩ := hob.append
  obtain ⟨dl, dob⟩ := d
  have hx' : gS1 fops dl = some x := hx
  unfold gS1 at hx'
  split at hx' <;> try (cases hx'; done)
  rename_i v r a t _
  split at hx' <;> cases hx'
  rename_i w hw _
  obtain ⟨h1, h2, h3, h4⟩ := pB_iff.1 (show okS fops w r a t = true from ho2.head)
  refine ⟨⟨stepV (okN fops isNum w r t) (nw fops w r a t) (htF fops w r a t) (smF fops w r t) (fuF fops w r a t), [], base, dob ++ [okStep w a t]⟩, ?_, AllT.app ho1 (AllT.one' (pB_iff.2 ⟨h1, h2, h3⟩)), fun E v hv => ?_, rfl, Nat.le_refl _, Nat.le_refl _⟩
  · unfold gQo gSp
    simp only [bindO, hd, hw]
  · have : okN fops isNum w r t = true := h4
    rw [this] at hv
    obtain ⟨vs, e, h⟩ := hv
    have h' : RelEs E ([SE.a (wdL (nw fops w r a t)), SE.c (SC.flt FloatKind.f32 (htF fops w r a t)), SE.c (SC.flt FloatKind.f32 (smF fops w r t)), SE.c (SC.flt FloatKind.f32 (fuF fops w r a t))] ++ [.c (.int .i64 (.s 0))]) vs.toList := h
    exact ⟨vs, e, relEs_last (l := [SE.a (wdL (nw fops w r a t)), SE.c (SC.flt FloatKind.f32 (htF fops w r a t)), SE.c (SC.flt FloatKind.f32 (smF fops w r t)), SE.c (SC.flt FloatKind.f32 (fuF fops w r a t))]) (x := .c (.int .i64 (.s 0))) (y := .c (.int .i64 (.c 0))) (fun v h => h) h'⟩
def Lf (O : FOps) : List (Nat × CS) := [(94, gSo (gI1 O)), (90, gQo [.p 18, .v, .v, .v] (gS1 O))]
set_option maxRecDepth 100000 in
theorem okLf : AllOK Try.prog (Lf fops) := ⟨cI1, cS1, trivial⟩
def cxF (O : FOps) : Cx := ⟨Try.prog, O, orcN Try.prog O (Lf O) 8⟩
def zK : List KC := [.slc 0 0 0 0 false, .flt .f32, .flt .f32, .int .i8, .int .i64, .flt .f32]
def oK (id : Nat) : List KC := [.sl id 0 18 true, .flt .f32, .flt .f32, .int .i8, .int .i64, .flt .f32]
def gK : List KC := [.flt .f32, .flt .f32, .flt .f32, .flt .f32]
noncomputable def NI : Nat := Try.f79.ntmps
noncomputable def Ik : Sk := ⟨[(2, .c (.flt .f32)), (3, .c (.flt .f32)), (4, .c (.ptr 2 0)), (8, .c (.ptr 3 0)), (9, .c (.ptr 4 0)), (11, .c (.flt .f32)), (12, .c (.flt .f32)), (13, .c (.flt .f32)), (14, .c (.ptr 10 0)), (33, .c (.sl 8 0 18 true)), (34, .c (.int .i64)), (35, .c (.int .i64))],
  [(1, ⟨false, false, .rows 18⟩), (2, ⟨true, true, .cells (oK 8)⟩), (3, ⟨true, true, .cells zK⟩), (4, ⟨true, true, .cells gK⟩), (8, ⟨true, true, .rows 18⟩), (10, ⟨true, true, .cells gK⟩)], 11⟩
noncomputable def ID (N : Int) (row : Int → List SC) (F : Nat → Int → Nat) (G : Nat → Int → Int) (n k : Int) (rm tm air bx ht : Nat) (st : Nat) (fu : Nat) (a b : Nat) (s t : Int) (c : Nat) : List LD :=
  [.f rm, .f tm, .f air, .f bx, .f ht, .i n, .i n, .i k] ++ [.i N, .r row] ++ [.i n, .f a, .f b, .i s, .i t, .f c] ++ [.f 0, .f 0, .i 0, .i 0, .f 0] ++ [.f 0, .f 0, .f 0, .f 0] ++ [.i n, .r (Row F G)] ++ [.f 0, .f 0, .f st, .f fu]
noncomputable def Ig (O : FOps) (h : List (Nat × Bool)) (sk : Sk) (N : Int) (row : Int → List SC) (F : Nat → Int → Nat) (G : Nat → Int → Int) (n k : Int) (rm tm air bx ht : Nat) (st : Nat) (fu : Nat) (a b : Nat) (s t : Int) (c : Nat) : Option (Option XK × List LD × List Bool) :=
  goL (cxF O) NI ⟨hints h, fun _ => none⟩ (bodyOf Try.f79 6) 11 70 Ik [] sk (ID N row F G n k rm tm air bx ht st fu a b s t c)
def wk (F : Nat → Int → Nat) (k : Int) : Nat → Nat := fun i => at18 F k i
/-- The rows when the log at 'k' has made its step. -/
def upF (O : FOps) (F : Nat → Int → Nat) (k : Int) (bx air tm : Nat) : Nat → Int → Nat := fun c j => bif decide (j = k) then nw O (wk F k) bx air tm c else F c j
def inb (n k : Int) : Bool := decide (0 ≤ k ∧ k < n)
def hI (O : FOps) (F : Nat → Int → Nat) (k : Int) (bx air tm h : Nat) : Nat := O.bin .add .f32 h (htF O (wk F k) bx air tm)
def sI (O : FOps) (F : Nat → Int → Nat) (k : Int) (bx tm h : Nat) : Nat := O.bin .add .f32 h (smF O (wk F k) bx tm)
def fI (O : FOps) (F : Nat → Int → Nat) (k : Int) (bx air tm h : Nat) : Nat := O.bin .add .f32 h (fuF O (wk F k) bx air tm)
def obI (O : FOps) (row : Int → List SC) (F : Nat → Int → Nat) (G : Nat → Int → Int) (n k : Int) (bx air tm : Nat) : List Bool := [decide (k < n), inb n k, inb n k, okS O (wk F k) bx air tm, inb n k, inb n k, flatR row, flatR (Row (upF O F k bx air tm) G)]
set_option maxRecDepth 100000 in
theorem Ia (O : FOps) (N : Int) (row : Int → List SC) (F : Nat → Int → Nat) (G : Nat → Int → Int) (n k : Int) (rm tm air bx ht : Nat) (st : Nat) (fu : Nat) (a b : Nat) (s t : Int) (c : Nat) : Ig O [(36, true)] Ik N row F G n k rm tm air bx ht st fu a b s t c =
    some (none, ID N row (upF O F k bx air tm) G n (IntKind.i64.wrap (k + 1)) rm tm air bx (hI O F k bx air tm ht) (sI O F k bx tm st) (fI O F k bx air tm fu) a b s t c, obI O row F G n k bx air tm) := by kernel_rfl
def Ie : Sk := ⟨[(2, .c (.flt .f32)), (3, .c (.flt .f32)), (4, .c (.ptr 2 0)), (8, .c (.ptr 3 0)), (9, .c (.ptr 4 0)), (11, .c (.flt .f32)), (12, .c (.flt .f32)), (13, .c (.flt .f32)), (14, .c (.ptr 10 0))],
  [(1, ⟨false, false, .rows 18⟩), (2, ⟨true, true, .cells (oK 8)⟩), (3, ⟨true, true, .cells zK⟩), (4, ⟨true, true, .cells gK⟩), (8, ⟨true, true, .rows 18⟩), (10, ⟨true, true, .cells gK⟩)], 70⟩
def IE (N : Int) (row : Int → List SC) (F : Nat → Int → Nat) (G : Nat → Int → Int) (n : Int) (rm tm air bx ht : Nat) (st : Nat) (fu : Nat) (a b : Nat) (s t : Int) (c : Nat) : List LD :=
  [.f rm, .f tm, .f air, .f bx, .f ht] ++ [.i N, .r row] ++ [.i n, .f a, .f b, .i s, .i t, .f c] ++ [.f 0, .f 0, .i 0, .i 0, .f 0] ++ [.f 0, .f 0, .f 0, .f 0] ++ [.i n, .r (Row F G)] ++ [.f 0, .f 0, .f st, .f fu]
set_option maxRecDepth 100000 in
theorem Ib (O : FOps) (N : Int) (row : Int → List SC) (F : Nat → Int → Nat) (G : Nat → Int → Int) (n k : Int) (rm tm air bx ht : Nat) (st : Nat) (fu : Nat) (a b : Nat) (s t : Int) (c : Nat) : Ig O [(36, false)] Ie N row F G n k rm tm air bx ht st fu a b s t c =
    some (some (.exit 0), IE N row F G n rm tm air bx ht st fu a b s t c, [!decide (k < n), flatR row, flatR (Row F G)]) := by kernel_rfl
/-! ### the spec's -/
noncomputable def NS : Nat := Try.f77.ntmps
def Sk' : Sk := ⟨[(0, .c (.ptr 2 0)), (2, .c (.flt .f32)), (3, .c (.flt .f32)), (8, .c (.ptr 3 0)), (9, .c (.ptr 4 0)), (11, .c (.ptr 9 0)), (12, .c (.flt .f32)), (13, .c (.flt .f32)), (14, .c (.ptr 10 0)), (15, .c (.int .i64))],
  [(1, ⟨false, false, .rows 18⟩), (2, ⟨false, false, .cells stK⟩), (3, ⟨true, true, .cells zK⟩), (4, ⟨true, true, .cells gK⟩), (8, ⟨true, true, .rows 18⟩), (9, ⟨true, true, .cells (oK 8)⟩), (10, ⟨true, true, .cells gK⟩)], 11⟩
def Se : Sk := ⟨[(0, .c (.ptr 2 0)), (2, .c (.flt .f32)), (3, .c (.flt .f32)), (8, .c (.ptr 3 0)), (9, .c (.ptr 4 0)), (11, .c (.ptr 9 0)), (12, .c (.flt .f32)), (13, .c (.flt .f32)), (14, .c (.ptr 10 0))],
  [(1, ⟨false, false, .rows 18⟩), (2, ⟨false, false, .cells stK⟩), (3, ⟨true, true, .cells zK⟩), (4, ⟨true, true, .cells gK⟩), (8, ⟨true, true, .rows 18⟩), (9, ⟨true, true, .cells (oK 8)⟩), (10, ⟨true, true, .cells gK⟩)], 70⟩
/-- 'F0' the old rows, 'F' the own ones. -/
def SE (F0 : Nat → Int → Nat) (G0 : Nat → Int → Int) (F : Nat → Int → Nat) (G : Nat → Int → Int) (n : Int) (rm tm air ht : Nat) (st : Nat) (fu : Nat) (a b : Nat) (s t : Int) (c : Nat) : List LD :=
  [.i n, .r (Row F0 G0)] ++ [.i n, .f a, .f b, .i s, .i t, .f c] ++ [.f 0, .f 0, .i 0, .i 0, .f 0] ++ [.f 0, .f 0, .f 0, .f 0] ++ [.i n, .r (Row F G)] ++ [.i n, .f a, .f b, .i s, .i t, .f c] ++ [.f 0, .f 0, .f st, .f fu]
def SD (F0 : Nat → Int → Nat) (G0 : Nat → Int → Int) (F : Nat → Int → Nat) (G : Nat → Int → Int) (n k : Int) (rm tm air ht : Nat) (st : Nat) (fu : Nat) (a b : Nat) (s t : Int) (c : Nat) : List LD :=
  [.f rm, .f tm, .f air, .f ht, .i k] ++ SE F0 G0 F G n rm tm air ht st fu a b s t c
noncomputable def Sg (O : FOps) (h : List (Nat × Bool)) (sk : Sk) (F0 : Nat → Int → Nat) (G0 : Nat → Int → Int) (F : Nat → Int → Nat) (G : Nat → Int → Int) (n k : Int) (rm tm air ht : Nat) (st : Nat) (fu : Nat) (a b : Nat) (s t : Int) (c : Nat) : Option (Option XK × List LD × List Bool) :=
  goL (cxF O) NS ⟨hints h, fun _ => none⟩ (bodyOf Try.f77 6) 11 70 Sk' [] sk (SD F0 G0 F G n k rm tm air ht st fu a b s t c)
def upS (O : FOps) (F0 F : Nat → Int → Nat) (k : Int) (bx air tm : Nat) : Nat → Int → Nat := fun c j => bif decide (j = k) then nw O (wk F0 k) bx air tm c else F c j
def obS (O : FOps) (F0 : Nat → Int → Nat) (G0 : Nat → Int → Int) (F : Nat → Int → Nat) (G : Nat → Int → Int) (n k : Int) (bx air tm : Nat) : List Bool := [decide (k < n), inb n k, inb n k, okS O (wk F0 k) bx air tm, inb n k, inb n k, flatR (Row F0 G0), flatR (Row (upS O F0 F k bx air tm) G)]
set_option maxRecDepth 100000 in
theorem Sa (O : FOps) (F0 : Nat → Int → Nat) (G0 : Nat → Int → Int) (F : Nat → Int → Nat) (G : Nat → Int → Int) (n k : Int) (rm tm air ht : Nat) (st : Nat) (fu : Nat) (a b : Nat) (s t : Int) (c : Nat) : Sg O [(36, true)] Sk' F0 G0 F G n k rm tm air ht st fu a b s t c =
    some (none, SD F0 G0 (upS O F0 F k a air tm) G n (IntKind.i64.wrap (k + 1)) rm tm air (hI O F0 k a air tm ht) (sI O F0 k a tm st) (fI O F0 k a air tm fu) a b s t c, obS O F0 G0 F G n k a air tm) := by kernel_rfl
set_option maxRecDepth 100000 in
theorem Sb (O : FOps) (F0 : Nat → Int → Nat) (G0 : Nat → Int → Int) (F : Nat → Int → Nat) (G : Nat → Int → Int) (n k : Int) (rm tm air ht : Nat) (st : Nat) (fu : Nat) (a b : Nat) (s t : Int) (c : Nat) : Sg O [(36, false)] Se F0 G0 F G n k rm tm air ht st fu a b s t c =
    some (some (.exit 0), [.f rm, .f tm, .f air, .f ht] ++ SE F0 G0 F G n rm tm air ht st fu a b s t c, [!decide (k < n), flatR (Row F0 G0), flatR (Row F G)]) := by kernel_rfl
end
end Go.Proofs.Ytngdmcbjponlhaa.Fir
end

/- A step of a stove: the loops. Nothing is assumed. -/
section
namespace Go.Proofs.Ytngdmcbjponlhaa.Fir
open Go SlWood Stv Sto Lgc
noncomputable section
/-- The rows with the logs before 'k' one step on. -/
def FK (O : FOps) (F : Nat → Int → Nat) (bx air tm : Nat) (k : Int) : Nat → Int → Nat := fun c j => bif decide (0 ≤ j) && decide (j < k) then nw O (wk F j) bx air tm c else F c j
theorem FK_zero (O : FOps) (F : Nat → Int → Nat) (bx air tm : Nat) : FK O F bx air tm 0 = F := by
  funext c j
  unfold FK
  by_cases h : 0 ≤ j
  · rw [decide_eq_false (show ¬ j < 0 by omega), Bool.and_false]; rfl
  · rw [decide_eq_false h]; rfl
theorem FK_at (O : FOps) (F : Nat → Int → Nat) (bx air tm : Nat) (k : Int) : wk (FK O F bx air tm k) k = wk F k := by
  have h : ∀ c, FK O F bx air tm k c k = F c k := fun c => by
    unfold FK
    rw [decide_eq_false (show ¬ k < k by omega), Bool.and_false]; rfl
  funext i
  unfold wk at18
  simp only [h]
theorem FK_up (O : FOps) (F : Nat → Int → Nat) (bx air tm : Nat) {k : Int} (hk : 0 ≤ k) : upS O F (FK O F bx air tm k) k bx air tm = FK O F bx air tm (k + 1) := by
  funext c j
  unfold upS FK
  by_cases h : j = k
  · subst h
    rw [decide_eq_true rfl, decide_eq_true hk, decide_eq_true (show j < j + 1 by omega)]; rfl
  · rw [decide_eq_false h]
    by_cases h2 : j < k
    · rw [decide_eq_true h2, decide_eq_true (show j < k + 1 by omega)]; rfl
    · rw [decide_eq_false h2, decide_eq_false (show ¬ j < k + 1 by omega)]; rfl
theorem upF_eq (O : FOps) (F : Nat → Int → Nat) (bx air tm : Nat) {k : Int} (hk : 0 ≤ k) : upF O (FK O F bx air tm k) k bx air tm = FK O F bx air tm (k + 1) := by
  rw [← FK_up O F bx air tm hk]
  unfold upF upS
  rw [FK_at]
/-- The sums over the first logs: heat, steam, fuel. -/
def hS (O : FOps) (F : Nat → Int → Nat) (bx air tm : Nat) : Nat → Nat
  | 0 => 0
  | k + 1 => hI O F k bx air tm (hS O F bx air tm k)
def sS (O : FOps) (F : Nat → Int → Nat) (bx tm : Nat) : Nat → Nat
  | 0 => 0
  | k + 1 => sI O F k bx tm (sS O F bx tm k)
def fS (O : FOps) (F : Nat → Int → Nat) (bx air tm : Nat) : Nat → Nat
  | 0 => 0
  | k + 1 => fI O F k bx air tm (fS O F bx air tm k)
theorem h_eq (O : FOps) (F : Nat → Int → Nat) (bx air tm : Nat) (k : Int) (h : Nat) : hI O (FK O F bx air tm k) k bx air tm h = hI O F k bx air tm h := by unfold hI; rw [FK_at]
theorem s_eq (O : FOps) (F : Nat → Int → Nat) (bx air tm : Nat) (k : Int) (h : Nat) : sI O (FK O F bx air tm k) k bx tm h = sI O F k bx tm h := by unfold sI; rw [FK_at]
theorem f_eq (O : FOps) (F : Nat → Int → Nat) (bx air tm : Nat) (k : Int) (h : Nat) : fI O (FK O F bx air tm k) k bx air tm h = fI O F k bx air tm h := by unfold fI; rw [FK_at]
/-- All logs can make the step. -/
def Goo (F : Nat → Int → Nat) (n : Int) (bx air tm : Nat) : Prop := ∀ k, 0 ≤ k → k < n → okS fops (wk F k) bx air tm = true
theorem lpI {N : Int} {row : Int → List SC} (hrow : flatR row = true) (F : Nat → Int → Nat) (G : Nat → Int → Int) {n : Int} (hn : n ≤ 1048576) (rm tm air bx : Nat) (hg : Goo F n bx air tm) (a b : Nat) (s t : Int) (c : Nat) : ∀ (m k : Nat), (k : Int) + m = n →
    Loops (cxF fops) NI (fun _ => none) (bodyOf Try.f79 6) 11 70 Ik (ID N row (FK fops F bx air tm k) G n k rm tm air bx (hS fops F bx air tm k) (sS fops F bx tm k) (fS fops F bx air tm k) a b s t c) (.exit 0) Ie
      (IE N row (FK fops F bx air tm n) G n rm tm air bx (hS fops F bx air tm n.toNat) (sS fops F bx tm n.toNat) (fS fops F bx air tm n.toNat) a b s t c) := by
  intro m
  induction m with
  | zero =>
    intro k hkn
    have e : n = k := by omega
    subst e
    exact .done (ρ := []) (Ib fops N row (FK fops F bx air tm k) G k k rm tm air bx _ _ _ a b s t c) (AllT.cons (by simp) (AllT.cons hrow (AllT.one' (rowK_flat _ _ _))))
  | succ m ih =>
    intro k hkn
    have i1 := ih (k + 1) (by omega)
    have hA := Ia fops N row (FK fops F bx air tm k) G n k rm tm air bx (hS fops F bx air tm k) (sS fops F bx tm k) (fS fops F bx air tm k) a b s t c
    rw [wrap_succ (by omega) (by omega), upF_eq _ _ _ _ _ (by omega), h_eq, s_eq, f_eq] at hA
    have b1 : inb n k = true := decide_eq_true (by omega)
    have hob : AllT (obI fops row (FK fops F bx air tm k) G n k bx air tm) := by
      unfold obI
      rw [b1, FK_at, hg k (by omega) (by omega), hrow]
      exact AllT.cons (decide_eq_true (by omega)) (AllT.cons rfl (AllT.cons rfl (AllT.cons rfl (AllT.cons rfl (AllT.cons rfl (AllT.cons rfl (AllT.one' (rowK_flat _ _ _))))))))
    exact .step (ρ := []) hA hob i1
theorem lpS (F : Nat → Int → Nat) (G0 G : Nat → Int → Int) {n : Int} (hn : n ≤ 1048576) (rm tm air a : Nat) (hg : Goo F n a air tm) (b : Nat) (s t : Int) (c : Nat) : ∀ (m k : Nat), (k : Int) + m = n →
    Loops (cxF fops) NS (fun _ => none) (bodyOf Try.f77 6) 11 70 Sk' (SD F G0 (FK fops F a air tm k) G n k rm tm air (hS fops F a air tm k) (sS fops F a tm k) (fS fops F a air tm k) a b s t c) (.exit 0) Se
      ([.f rm, .f tm, .f air, .f (hS fops F a air tm n.toNat)] ++ SE F G0 (FK fops F a air tm n) G n rm tm air (hS fops F a air tm n.toNat) (sS fops F a tm n.toNat) (fS fops F a air tm n.toNat) a b s t c) := by
  intro m
  induction m with
  | zero =>
    intro k hkn
    have e : n = k := by omega
    subst e
    exact .done (ρ := []) (Sb fops F G0 (FK fops F a air tm k) G k k rm tm air _ _ _ a b s t c) (AllT.cons (by simp) (AllT.cons (rowK_flat _ _ _) (AllT.one' (rowK_flat _ _ _))))
  | succ m ih =>
    intro k hkn
    have i1 := ih (k + 1) (by omega)
    have hA := Sa fops F G0 (FK fops F a air tm k) G n k rm tm air (hS fops F a air tm k) (sS fops F a tm k) (fS fops F a air tm k) a b s t c
    rw [wrap_succ (by omega) (by omega), FK_up _ _ _ _ _ (by omega)] at hA
    have b1 : inb n k = true := decide_eq_true (by omega)
    have hob : AllT (obS fops F G0 (FK fops F a air tm k) G n k a air tm) := by
      unfold obS
      rw [b1, hg k (by omega) (by omega)]
      exact AllT.cons (decide_eq_true (by omega)) (AllT.cons rfl (AllT.cons rfl (AllT.cons rfl (AllT.cons rfl (AllT.cons rfl (AllT.cons (rowK_flat _ _ _) (AllT.one' (rowK_flat _ _ _))))))))
    exact .step (ρ := []) hA hob i1
end
end Go.Proofs.Ytngdmcbjponlhaa.Fir
end
