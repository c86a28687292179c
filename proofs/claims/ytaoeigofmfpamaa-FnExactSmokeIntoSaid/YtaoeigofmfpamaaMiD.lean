/- Parts of a proof, merged: SlFlue, Flu, Chy, Chs, Chl, Smk0, SlFloat32, Smk1, Smk2, Smk3, Smk4, Smk5, Smk6, Fnr, Smk7, Smk8, Smk9. Nothing is assumed. -/
import Derived.Test.YtaoeigofmfpamaaMiC
/- Slices of Flue: how they are made, compared and marked. Nothing is assumed. -/
section
namespace Go.Proofs.Ytaoeigofmfpamaa.SlFlue
open Go
noncomputable def ts : List KK := [.flt .f32, .flt .f32, .flt .f32, .flt .f32, .int .i64]
noncomputable abbrev Row (F : Nat → Int → Nat) (G : Nat → Int → Int) : Int → List SC := rowK ts F G
theorem shape_row (F : Nat → Int → Nat) (G : Nat → Int → Int) : Shape ts (Row F G) := by
  unfold Shape
  funext j
  rfl
/-! ### made anew -/
noncomputable def skT : Sk := ⟨[(0, .c (.sl 1 0 5 false)), (3, .c (.sl 2 0 5 true)), (4, .c (.int .i64))], [(1, ⟨false, false, .rows 5⟩), (2, ⟨true, true, .rows 5⟩)], 3⟩
noncomputable def skTE : Sk := ⟨[(3, .c (.sl 2 0 5 true))], [(1, ⟨false, false, .rows 5⟩), (2, ⟨true, true, .rows 5⟩)], 3⟩
noncomputable def cxT (O : FOps) : Cx := ⟨Try.prog, O, orcN Try.prog O [] 8⟩
noncomputable def toN : Nat := Try.f16.ntmps
noncomputable def onT (b : Bool) (t : Nat) : Option Bool := bif Nat.beq t 11 then some b else none
noncomputable def goT (O : FOps) (b : Bool) (sk : Sk) (F : Nat → Int → Nat) (G : Nat → Int → Int) (X : Nat → Int → Nat) (Y : Nat → Int → Int) (n k : Int) : Option (Option XK × List LD × List Bool) :=
  goL (cxT O) toN ⟨onT b, fun _ => none⟩ (bodyOf Try.f16 3) 3 60 skT [] sk [.i n, .i n, .i k, .i n, .r (Row F G), .i n, .r (Row X Y)]
set_option maxRecDepth 100000 in
theorem to_step (O : FOps) (F : Nat → Int → Nat) (G : Nat → Int → Int) (X : Nat → Int → Nat) (Y : Nat → Int → Int) (n k : Int) : goT O true skT F G X Y n k =
    some (none, [.i n, .i n, .i (IntKind.i64.wrap (k + 1)), .i n, .r (Row F G), .i n, .r (Row (fun c j => bif decide (j = k) then F c k else X c j) (fun c j => bif decide (j = k) then G c k else Y c j))],
      [decide (k < n), decide (0 ≤ k ∧ k < n), decide (0 ≤ k ∧ k < n), decide (0 ≤ k ∧ k < n), decide (0 ≤ k ∧ k < n), flatR (Row F G), flatR (Row (fun c j => bif decide (j = k) then F c k else X c j) (fun c j => bif decide (j = k) then G c k else Y c j))]) := by kernel_rfl
set_option maxRecDepth 100000 in
theorem to_end (O : FOps) (F : Nat → Int → Nat) (G : Nat → Int → Int) (X : Nat → Int → Nat) (Y : Nat → Int → Int) (n k : Int) : goT O false skTE F G X Y n k =
    some (some (.exit 0), [.i n, .i n, .r (Row F G), .i n, .r (Row X Y)], [!decide (k < n), flatR (Row F G), flatR (Row X Y)]) := by kernel_rfl
noncomputable def PreT (n m k n1 : Int) (row : Int → List SC) (n2 : Int) (out : Int → List SC) : Prop :=
  m = n ∧ k = 0 ∧ n1 = n ∧ n2 = n ∧ 0 ≤ n ∧ n ≤ 1048576 ∧ Shape ts row ∧ out = Row (fun _ _ => 0) (fun _ _ => 0)
noncomputable def FT : List LD → Option (XO × List Bool)
  | [.i n, .i m, .i k, .i n1, .r row, .i n2, .r out] => some ([(.t, .exit 0, skTE, [.i n, .i n, .r row, .i n, .r (Row (clF n (datF row)) (clG n (datG row)))])], [pB (PreT n m k n1 row n2 out)])
  | _ => none
theorem to_loops (F : Nat → Int → Nat) (G : Nat → Int → Int) (n : Int) (hn : n ≤ 1048576) : ∀ (m : Nat) (k : Int), 0 ≤ k → k + m = n →
    Loops (cxT fops) toN (fun _ => none) (bodyOf Try.f16 3) 3 60 skT [.i n, .i n, .i k, .i n, .r (Row F G), .i n, .r (Row (clF k F) (clG k G))] (.exit 0) skTE [.i n, .i n, .r (Row F G), .i n, .r (Row (clF n F) (clG n G))] := by
  intro m
  induction m with
  | zero =>
    intro k hk hkn
    have e : k = n := by omega
    subst e
    refine .done (ts := onT false) (ρ := []) (to_end fops F G (clF k F) (clG k G) k k) ?_
    refine AllT.cons (by simp) (AllT.cons (rowK_flat _ _ _) (AllT.cons (rowK_flat _ _ _) AllT.nil))
  | succ m ih =>
    intro k hk hkn
    have h1 := to_step fops F G (clF k F) (clG k G) n k
    rw [clF_step hk, clG_step hk, wrap_succ hk (by omega)] at h1
    have hd : decide (k < n) = true := by simp; omega
    have hd2 : decide (0 ≤ k ∧ k < n) = true := by simp; omega
    exact .step (ts := onT true) (ρ := []) h1 (AllT.cons hd (AllT.cons hd2 (AllT.cons hd2 (AllT.cons hd2 (AllT.cons hd2 (AllT.cons (rowK_flat _ _ _) (AllT.cons (rowK_flat _ _ _) AllT.nil))))))) (ih (k + 1) (by omega) (by omega))
noncomputable def LT (O : FOps) : List Ly → Top → Option Outs := orIter (cxT O) toN (bodyOf Try.f16 3) (loopL toN 3 60 skT [] FT)
set_option maxRecDepth 100000 in
theorem okT : CodeOK Try.prog toN (.loop (bodyOf Try.f16 3)) (LT fops) := by
  refine orIter_ok (l := []) trivial mixed 8 (loopL_ok (cx := cxT fops) (lp := fun _ => none) (fun ts => body_ok (l := []) trivial mixed 8 _ ts) fun p r hr hob => ?_)
  unfold FT at hr
  split at hr <;> cases hr
  rename_i n m k n1 row n2 out
  obtain ⟨e1, e2, e3, e4, h0, hm, hs, e5⟩ := pB_iff.1 hob.head
  refine ⟨_, _, _, rfl, ?_⟩
  have h1 := to_loops (datF row) (datG row) n hm n.toNat 0 (Int.le_refl _) (by omega)
  rw [clF_zero, clG_zero] at h1
  rw [e1, e2, e3, e4, e5, hs]
  exact h1
/-- The contract of laws.toFlueS. -/
noncomputable def toS (O : FOps) : CS := canS (inl (cxT O) Try.f16 ⟨fun _ => none, lpOf [(3, LT O)]⟩)
set_option maxRecDepth 100000 in
theorem cTo : CallOK Try.prog 16 (toS fops) := by
  have hb : Try.f16.body.isSome = true := by kernel_rfl
  obtain ⟨c, hc⟩ := Option.isSome_iff_exists.1 hb
  have h1 : (match Try.f16.body with | some c => onceB (loopsIn c) && (match loopAt 3 (loopsIn c) with | some _ => true | none => false) | none => false) = true := by kernel_rfl
  rw [hc] at h1
  simp only [Bool.and_eq_true] at h1
  exact (inlL_of (l := []) (ls := [(3, LT fops)]) trivial mixed 8 Try.func16 (by kernel_rfl) (fun _ => none) hc h1.1 ⟨⟨_, bodyOf_at hc h1.2, okT⟩, trivial⟩).can
/-! ### compared -/
noncomputable def q (O : FOps) (F : Nat → Int → Nat) (G : Nat → Int → Int) (H : Nat → Int → Nat) (I : Nat → Int → Int) (k : Int) : Bool := bif !sf O (O.conv .f32 .f64 (F 0 k)) (O.conv .f32 .f64 (H 0 k)) then false else bif !sf O (O.conv .f32 .f64 (F 1 k)) (O.conv .f32 .f64 (H 1 k)) then false else bif !sf O (O.conv .f32 .f64 (F 2 k)) (O.conv .f32 .f64 (H 2 k)) then false else bif !sf O (O.conv .f32 .f64 (F 3 k)) (O.conv .f32 .f64 (H 3 k)) then false else bif !decide (G 4 k = I 4 k) then false else true
noncomputable def skQ : Sk := ⟨[(0, .c (.sl 2 0 5 false)), (1, .c (.sl 1 0 5 false)), (5, .c (.int .i64))], [(1, ⟨false, false, .rows 5⟩), (2, ⟨false, false, .rows 5⟩)], 3⟩
noncomputable def skQR : Sk := ⟨[(4, .c (.boolc false))], [(1, ⟨false, false, .rows 5⟩), (2, ⟨false, false, .rows 5⟩)], 3⟩
noncomputable def skQE : Sk := ⟨[], [(1, ⟨false, false, .rows 5⟩), (2, ⟨false, false, .rows 5⟩)], 3⟩
noncomputable def LQ (O : FOps) : List (Nat × CS) := [(12, gS (sfG O))]
set_option maxRecDepth 100000 in
theorem okLQ : AllOK Try.prog (LQ fops) := ⟨cSf, trivial⟩
noncomputable def cxQ (O : FOps) : Cx := ⟨Try.prog, O, orcN Try.prog O (LQ O) 8⟩
noncomputable def eqN : Nat := Try.f18.ntmps
noncomputable def onQ (a b : Bool) (t : Nat) : Option Bool := bif Nat.beq t 14 then some a else bif Nat.beq t 26 then some b else none
noncomputable def goQ (O : FOps) (a b : Bool) (sk : Sk) (F : Nat → Int → Nat) (G : Nat → Int → Int) (H : Nat → Int → Nat) (I : Nat → Int → Int) (n m k : Int) : Option (Option XK × List LD × List Bool) :=
  goL (cxQ O) eqN ⟨onQ a b, fun _ => none⟩ (bodyOf Try.f18 4) 3 60 skQ [] sk [.i n, .i m, .i k, .i m, .r (Row H I), .i n, .r (Row F G)]
noncomputable def idx (n m k : Int) : List Bool := [decide (k < n), decide (0 ≤ k ∧ k < n), decide (0 ≤ k ∧ k < n), decide (0 ≤ k ∧ k < m), decide (0 ≤ k ∧ k < m)]
set_option maxRecDepth 100000 in
theorem eq_step (O : FOps) (F : Nat → Int → Nat) (G : Nat → Int → Int) (H : Nat → Int → Nat) (I : Nat → Int → Int) (n m k : Int) : goQ O true false skQ F G H I n m k =
    some (none, [.i n, .i m, .i (IntKind.i64.wrap (k + 1)), .i m, .r (Row H I), .i n, .r (Row F G)], idx n m k ++ [!!(q O F G H I k), flatR (Row H I), flatR (Row F G)]) := by kernel_rfl
set_option maxRecDepth 100000 in
theorem eq_ret (O : FOps) (F : Nat → Int → Nat) (G : Nat → Int → Int) (H : Nat → Int → Nat) (I : Nat → Int → Int) (n m k : Int) : goQ O true true skQR F G H I n m k =
    some (some .ret, [.i m, .r (Row H I), .i n, .r (Row F G)], idx n m k ++ [!(q O F G H I k), flatR (Row H I), flatR (Row F G)]) := by kernel_rfl
set_option maxRecDepth 100000 in
theorem eq_end (O : FOps) (F : Nat → Int → Nat) (G : Nat → Int → Int) (H : Nat → Int → Nat) (I : Nat → Int → Int) (n m k : Int) : goQ O false true skQE F G H I n m k =
    some (some (.exit 0), [.i m, .r (Row H I), .i n, .r (Row F G)], [!decide (k < n), flatR (Row H I), flatR (Row F G)]) := by kernel_rfl
theorem idx_ok {n k : Int} (h0 : 0 ≤ k) (h1 : k < n) : AllT (idx n n k) := by
  have h2 : decide (0 ≤ k ∧ k < n) = true := by simp; omega
  exact AllT.cons (by simpa using h1) (AllT.cons h2 (AllT.cons h2 (AllT.cons h2 (AllT.cons h2 AllT.nil))))
theorem eq_loops (F : Nat → Int → Nat) (G : Nat → Int → Int) (H : Nat → Int → Nat) (I : Nat → Int → Int) (n : Int) (hn : n ≤ 1048576) : ∀ (m : Nat) (k : Int), 0 ≤ k → k + m = n →
    (eqFrom (q fops F G H I) k m = true → Loops (cxQ fops) eqN (fun _ => none) (bodyOf Try.f18 4) 3 60 skQ [.i n, .i n, .i k, .i n, .r (Row H I), .i n, .r (Row F G)] (.exit 0) skQE [.i n, .r (Row H I), .i n, .r (Row F G)]) ∧
    (eqFrom (q fops F G H I) k m = false → Loops (cxQ fops) eqN (fun _ => none) (bodyOf Try.f18 4) 3 60 skQ [.i n, .i n, .i k, .i n, .r (Row H I), .i n, .r (Row F G)] .ret skQR [.i n, .r (Row H I), .i n, .r (Row F G)]) := by
  have fl : AllT [flatR (Row H I), flatR (Row F G)] := AllT.cons (rowK_flat _ _ _) (AllT.cons (rowK_flat _ _ _) AllT.nil)
  intro m
  induction m with
  | zero =>
    intro k hk hkn
    have e : k = n := by omega
    subst e
    refine ⟨fun _ => .done (ts := onQ false true) (ρ := []) (eq_end fops F G H I k k k) (AllT.cons (by simp) fl), fun h => by cases h⟩
  | succ m ih =>
    intro k hk hkn
    have hlt : k < n := by omega
    obtain ⟨i1, i2⟩ := ih (k + 1) (by omega) (by omega)
    have hE : eqFrom (q fops F G H I) k (m + 1) = bif q fops F G H I k then eqFrom (q fops F G H I) (k + 1) m else false := rfl
    rw [hE]
    cases hq : q fops F G H I k with
    | true =>
      have h1 := eq_step fops F G H I n n k
      rw [wrap_succ hk (by omega)] at h1
      have ho : AllT (idx n n k ++ [!!(q fops F G H I k), flatR (Row H I), flatR (Row F G)]) := AllT.app (idx_ok hk hlt) (AllT.cons (by rw [hq]; rfl) fl)
      exact ⟨fun h => .step (ts := onQ true false) (ρ := []) h1 ho (i1 h), fun h => .step (ts := onQ true false) (ρ := []) h1 ho (i2 h)⟩
    | false =>
      refine ⟨fun h => (by cases h), fun _ => .done (ts := onQ true true) (ρ := []) (eq_ret fops F G H I n n k) (AllT.app (idx_ok hk hlt) (AllT.cons (by rw [hq]; rfl) fl))⟩
def PreQ (n m k n1 : Int) (row : Int → List SC) (m1 : Int) (row' : Int → List SC) : Prop :=
  m = n ∧ k = 0 ∧ n1 = n ∧ m1 = n ∧ 0 ≤ n ∧ n ≤ 1048576 ∧ Shape ts row ∧ Shape ts row'
noncomputable def FQ (O : FOps) : List LD → Option (XO × List Bool)
  | [.i n, .i m, .i k, .i m1, .r row', .i n1, .r row] => some ([(.s (!eqFrom (q O (datF row) (datG row) (datF row') (datG row')) 0 n.toNat), .ret, skQR, [.i m, .r row', .i n, .r row]), (.t, .exit 0, skQE, [.i m, .r row', .i n, .r row])], [pB (PreQ n m k n1 row m1 row')])
  | _ => none
noncomputable def LE (O : FOps) : List Ly → Top → Option Outs := orIter (cxQ O) eqN (bodyOf Try.f18 4) (loopL eqN 3 60 skQ [] (FQ O))
set_option maxRecDepth 100000 in
theorem okE : CodeOK Try.prog eqN (.loop (bodyOf Try.f18 4)) (LE fops) := by
  refine orIter_ok (l := LQ fops) okLQ mixed 8 (loopL_ok (cx := cxQ fops) (lp := fun _ => none) (fun ts => body_ok (l := LQ fops) okLQ mixed 8 _ ts) fun p r hr hob => ?_)
  unfold FQ at hr
  split at hr <;> cases hr
  rename_i n m k m1 row' n1 row
  obtain ⟨e1, e2, e3, e4, h0, hm, hs, hs'⟩ := pB_iff.1 hob.head
  obtain ⟨h1, h2⟩ := eq_loops (datF row) (datG row) (datF row') (datG row') n hm n.toNat 0 (Int.le_refl _) (by omega)
  have hs1 : Row (datF row) (datG row) = row := hs.symm
  have hs2 : Row (datF row') (datG row') = row' := hs'.symm
  rw [hs1, hs2] at h1 h2
  rw [e1, e2, e3, e4]
  cases hq : eqFrom (q fops (datF row) (datG row) (datF row') (datG row')) 0 n.toNat with
  | true => exact ⟨_, _, _, by simp [pickX, SB.val], h1 hq⟩
  | false => exact ⟨_, _, _, by simp [pickX, SB.val], h2 hq⟩
/-- The contract of laws.eqFlueS. -/
noncomputable def eqS (O : FOps) : CS := roS (canS (inl (cxQ O) Try.f18 ⟨fun _ => none, lpOf [(4, LE O)]⟩))
set_option maxRecDepth 100000 in
theorem cEqS : CallOK Try.prog 18 (eqS fops) := by
  have hb : Try.f18.body.isSome = true := by kernel_rfl
  obtain ⟨c, hc⟩ := Option.isSome_iff_exists.1 hb
  have h1 : (match Try.f18.body with | some c => onceB (loopsIn c) && (match loopAt 4 (loopsIn c) with | some _ => true | none => false) | none => false) = true := by kernel_rfl
  rw [hc] at h1
  simp only [Bool.and_eq_true] at h1
  exact (inlL_of (l := LQ fops) (ls := [(4, LE fops)]) okLQ mixed 8 Try.func18 (by kernel_rfl) (fun _ => none) hc h1.1 ⟨⟨_, bodyOf_at hc h1.2, okE⟩, trivial⟩).can.ro
theorem q_self (F : Nat → Int → Nat) (G : Nat → Int → Int) (m : Nat) : eqFrom (q fops F G F G) 0 m = true := eqFrom_all (fun k => by unfold q; exact by simp [sf_self]) m 0
/-! ### marked -/
noncomputable def mkF (O : FOps) (u : Int) (k : Int) (X : Nat → Int → Nat) (c : Nat) (j : Int) : Nat := bif decide (0 ≤ j) && decide (j < k) then O.ofInt .f32 (wr (u + 5 * j) c) else X c j
noncomputable def mkG (u : Int) (k : Int) (Y : Nat → Int → Int) (c : Nat) (j : Int) : Int := bif decide (0 ≤ j) && decide (j < k) then wr (u + 5 * j) c else Y c j
theorem mkF_zero (O : FOps) (u : Int) (X : Nat → Int → Nat) : mkF O u 0 X = X := by
  funext c j
  unfold mkF
  by_cases h : 0 ≤ j
  · rw [decide_eq_false (by omega : ¬ j < 0), Bool.and_false]; rfl
  · rw [decide_eq_false h]; rfl
theorem mkG_zero (u : Int) (X : Nat → Int → Int) : mkG u 0 X = X := by
  funext c j
  unfold mkG
  by_cases h : 0 ≤ j
  · rw [decide_eq_false (by omega : ¬ j < 0), Bool.and_false]; rfl
  · rw [decide_eq_false h]; rfl
theorem mkF_step {k : Int} (hk : 0 ≤ k) (O : FOps) (u : Int) (X : Nat → Int → Nat) : (fun c j => bif decide (j = k) then O.ofInt .f32 (wr (u + 5 * k) c) else mkF O u k X c j) = mkF O u (k + 1) X := by
  funext c j
  unfold mkF
  by_cases e : j = k
  · subst e
    have h1 : j < j + 1 := by omega
    simp [hk, h1]
  · rw [decide_eq_false e]
    by_cases h : j < k
    · rw [decide_eq_true h, decide_eq_true (by omega : j < k + 1)]; rfl
    · rw [decide_eq_false h, decide_eq_false (by omega : ¬ j < k + 1)]; rfl
theorem mkG_step {k : Int} (hk : 0 ≤ k) (u : Int) (X : Nat → Int → Int) : (fun c j => bif decide (j = k) then wr (u + 5 * k) c else mkG u k X c j) = mkG u (k + 1) X := by
  funext c j
  unfold mkG
  by_cases e : j = k
  · subst e
    have h1 : j < j + 1 := by omega
    simp [hk, h1]
  · rw [decide_eq_false e]
    by_cases h : j < k
    · rw [decide_eq_true h, decide_eq_true (by omega : j < k + 1)]; rfl
    · rw [decide_eq_false h, decide_eq_false (by omega : ¬ j < k + 1)]; rfl
noncomputable def skM : Sk := ⟨[(0, .c (.sl 1 0 5 false)), (1, .c (.int .i64)), (5, .c (.int .i64))], [(1, ⟨true, false, .rows 5⟩)], 2⟩
noncomputable def skME : Sk := ⟨[(1, .c (.int .i64))], [(1, ⟨true, false, .rows 5⟩)], 2⟩
noncomputable def maN : Nat := Try.f25.ntmps
noncomputable def onM (b : Bool) (t : Nat) : Option Bool := bif Nat.beq t 9 then some b else none
noncomputable def goM (O : FOps) (b : Bool) (sk : Sk) (X : Nat → Int → Nat) (Y : Nat → Int → Int) (n u k : Int) : Option (Option XK × List LD × List Bool) :=
  goL (cxT O) maN ⟨onM b, fun _ => none⟩ (bodyOf Try.f25 2) 2 60 skM [] sk [.i n, .i u, .i k, .i n, .r (Row X Y)]
set_option maxRecDepth 100000 in
theorem ma_step (O : FOps) (X : Nat → Int → Nat) (Y : Nat → Int → Int) (n u k : Int) : goM O true skM X Y n u k =
    some (none, [.i n, .i (wr u 5), .i (IntKind.i64.wrap (k + 1)), .i n, .r (Row (fun c j => bif decide (j = k) then O.ofInt .f32 (wr u c) else X c j) (fun c j => bif decide (j = k) then wr u c else Y c j))],
      decide (k < n) :: (List.replicate 10 (decide (0 ≤ k ∧ k < n)) ++ [flatR (Row (fun c j => bif decide (j = k) then O.ofInt .f32 (wr u c) else X c j) (fun c j => bif decide (j = k) then wr u c else Y c j))])) := by kernel_rfl
set_option maxRecDepth 100000 in
theorem ma_end (O : FOps) (X : Nat → Int → Nat) (Y : Nat → Int → Int) (n u k : Int) : goM O false skME X Y n u k = some (some (.exit 0), [.i u, .i n, .r (Row X Y)], [!decide (k < n), flatR (Row X Y)]) := by kernel_rfl
theorem ma_loops (n u : Int) (X : Nat → Int → Nat) (Y : Nat → Int → Int) (hn : n ≤ 1048576) (hu : 0 ≤ u) (hu2 : u ≤ 50000000) : ∀ (m : Nat) (k : Int), 0 ≤ k → k + m = n →
    Loops (cxT fops) maN (fun _ => none) (bodyOf Try.f25 2) 2 60 skM [.i n, .i (u + 5 * k), .i k, .i n, .r (Row (mkF fops u k X) (mkG u k Y))] (.exit 0) skME [.i (u + 5 * n), .i n, .r (Row (mkF fops u n X) (mkG u n Y))] := by
  intro m
  induction m with
  | zero =>
    intro k hk hkn
    have e : k = n := by omega
    subst e
    exact .done (ts := onM false) (ρ := []) (ma_end fops (mkF fops u k X) (mkG u k Y) k (u + 5 * k) k) (AllT.cons (by simp) (AllT.cons (rowK_flat _ _ _) AllT.nil))
  | succ m ih =>
    intro k hk hkn
    have h1 := ma_step fops (mkF fops u k X) (mkG u k Y) n (u + 5 * k) k
    have hw : wr (u + 5 * k) 5 = u + 5 * (k + 1) := by rw [wr_eq (by omega) (by omega)]; omega
    rw [mkF_step hk, mkG_step hk, hw, wrap_succ hk (by omega)] at h1
    have hd : decide (k < n) = true := by simp; omega
    have hd2 : decide (0 ≤ k ∧ k < n) = true := by simp; omega
    exact .step (ts := onM true) (ρ := []) h1 (AllT.cons hd (AllT.app (AllT.rep hd2 _) (AllT.cons (rowK_flat _ _ _) AllT.nil))) (ih (k + 1) (by omega) (by omega))
def PreM (n u k n1 : Int) (row : Int → List SC) : Prop := k = 0 ∧ n1 = n ∧ 0 ≤ n ∧ n ≤ 1048576 ∧ 0 ≤ u ∧ u ≤ 50000000 ∧ Shape ts row
noncomputable def FM (O : FOps) : List LD → Option (XO × List Bool)
  | [.i n, .i u, .i k, .i n1, .r row] => some ([(.t, .exit 0, skME, [.i (u + 5 * n), .i n, .r (Row (mkF O u n (datF row)) (mkG u n (datG row)))])], [pB (PreM n u k n1 row)])
  | _ => none
noncomputable def LM (O : FOps) : List Ly → Top → Option Outs := orIter (cxT O) maN (bodyOf Try.f25 2) (loopL maN 2 60 skM [] (FM O))
set_option maxRecDepth 100000 in
theorem okM : CodeOK Try.prog maN (.loop (bodyOf Try.f25 2)) (LM fops) := by
  refine orIter_ok (l := []) trivial mixed 8 (loopL_ok (cx := cxT fops) (lp := fun _ => none) (fun ts => body_ok (l := []) trivial mixed 8 _ ts) fun p r hr hob => ?_)
  unfold FM at hr
  split at hr <;> cases hr
  rename_i n u k n1 row
  obtain ⟨e1, e2, h0, hm, hu, hu1, hs⟩ := pB_iff.1 hob.head
  refine ⟨_, _, _, rfl, ?_⟩
  have h1 := ma_loops n u (datF row) (datG row) hm hu hu1 n.toNat 0 (Int.le_refl _) (by omega)
  have hs1 : Row (datF row) (datG row) = row := hs.symm
  rw [mkF_zero, mkG_zero, hs1, Int.mul_zero, Int.add_zero] at h1
  rw [e1, e2]
  exact h1
/-- The contract of laws.markFlueS. -/
noncomputable def maS (O : FOps) : CS := canS (inl (cxT O) Try.f25 ⟨fun _ => none, lpOf [(2, LM O)]⟩)
set_option maxRecDepth 100000 in
theorem cMa : CallOK Try.prog 25 (maS fops) := by
  have hb : Try.f25.body.isSome = true := by kernel_rfl
  obtain ⟨c, hc⟩ := Option.isSome_iff_exists.1 hb
  have h1 : (match Try.f25.body with | some c => onceB (loopsIn c) && (match loopAt 2 (loopsIn c) with | some _ => true | none => false) | none => false) = true := by kernel_rfl
  rw [hc] at h1
  simp only [Bool.and_eq_true] at h1
  exact (inlL_of (l := []) (ls := [(2, LM fops)]) trivial mixed 8 Try.func25 (by kernel_rfl) (fun _ => none) hc h1.1 ⟨⟨_, bodyOf_at hc h1.2, okM⟩, trivial⟩).can
/-! ### held -/
theorem int_num (k : FloatKind) (n : Int) : nanb k (fops.ofInt k n) = false := write_not_nan k.format (.number (n < 0) n.natAbs 0) rfl
noncomputable def skH : Sk := ⟨[(0, .c (.sl 1 0 5 false)), (1, .c (.int .i64)), (5, .c (.int .i64))], [(1, ⟨false, false, .rows 5⟩)], 2⟩
noncomputable def skHE : Sk := ⟨[(1, .c (.int .i64))], [], 2⟩
noncomputable def onH (b : Bool) (t : Nat) : Option Bool := bif Nat.beq t 9 then some b else bif Nat.beq t 19 then some false else bif Nat.beq t 29 then some false else bif Nat.beq t 39 then some false else bif Nat.beq t 49 then some false else bif Nat.beq t 58 then some false else none
noncomputable def hob (O : FOps) (F : Nat → Int → Nat) (G : Nat → Int → Int) (n u k : Int) : List Bool := [decide (k < n), decide (0 ≤ k ∧ k < n), decide (0 ≤ k ∧ k < n), !O.cmp .neq .f32 (F 0 k) (O.ofInt .f32 (wr u 0)), decide (0 ≤ k ∧ k < n), decide (0 ≤ k ∧ k < n), !O.cmp .neq .f32 (F 1 k) (O.ofInt .f32 (wr u 1)), decide (0 ≤ k ∧ k < n), decide (0 ≤ k ∧ k < n), !O.cmp .neq .f32 (F 2 k) (O.ofInt .f32 (wr u 2)), decide (0 ≤ k ∧ k < n), decide (0 ≤ k ∧ k < n), !O.cmp .neq .f32 (F 3 k) (O.ofInt .f32 (wr u 3)), decide (0 ≤ k ∧ k < n), decide (0 ≤ k ∧ k < n), !!decide (G 4 k = wr u 4), flatR (Row F G)]
def Marked (u n : Int) (row : Int → List SC) : Prop := ∃ X Y, row = Row (mkF fops u n X) (mkG u n Y)
def PreH (n u k n1 : Int) (row : Int → List SC) : Prop := k = 0 ∧ n1 = n ∧ 0 ≤ n ∧ n ≤ 1048576 ∧ 0 ≤ u ∧ u ≤ 50000000 ∧ Marked u n row
noncomputable def FH : List LD → Option (XO × List Bool)
  | [.i n, .i u, .i k, .i n1, .r row] => some ([(.t, .exit 0, skHE, [.i (u + 5 * n)])], [pB (PreH n u k n1 row)])
  | _ => none
noncomputable section
theorem shape_flat {row : Int → List SC} (h : Shape ts row) : flatR row = true := by rw [h]; exact rowK_flat _ _ _
/-- The rows of a copy. -/
def cpR (n : Int) (row : Int → List SC) : Int → List SC := Row (clF n (datF row)) (clG n (datG row))
/-- The rows when they are marked. -/
def mkR (O : FOps) (u n : Int) (row : Int → List SC) : Int → List SC := Row (mkF O u n (datF row)) (mkG u n (datG row))
def okN (n N : Int) (row : Int → List SC) : Bool := pB (N = n ∧ 0 ≤ n ∧ n ≤ 1048576 ∧ Shape ts row)
def okM' (n u N : Int) (row : Int → List SC) : Bool := pB (N = n ∧ 0 ≤ n ∧ n ≤ 1048576 ∧ 0 ≤ u ∧ u ≤ 50000000 ∧ Shape ts row)
def okH' (n u N : Int) (row : Int → List SC) : Bool := pB (N = n ∧ 0 ≤ n ∧ n ≤ 1048576 ∧ 0 ≤ u ∧ u ≤ 50000000 ∧ Marked u n row)
def okE' (n N : Int) (row : Int → List SC) (m M : Int) (row' : Int → List SC) : Bool := !decide (n = m) || pB (N = n ∧ M = n ∧ 0 ≤ n ∧ n ≤ 1048576 ∧ Shape ts row ∧ Shape ts row')
def eqR (O : FOps) (n m : Int) (row row' : Int → List SC) : Bool := bif !decide (n = m) then false else bif !eqFrom (q O (datF row) (datG row) (datF row') (datG row')) 0 n.toNat then false else true
theorem eqR_self (n : Int) (row : Int → List SC) : eqR fops n n row row = true := by
  unfold eqR
  rw [decide_eq_true rfl, q_self]
  rfl
def Z0 : Int → List SC := Row (fun _ _ => 0) (fun _ _ => 0)
set_option maxRecDepth 100000 in
theorem to_run (O : FOps) (f w o : Bool) (n N : Int) (row : Int → List SC) : nwS (inl (cxT O) Try.f16 ⟨fun _ => none, lpOf [(3, LT O)]⟩) 2 [.c (.sl 1 0 5 (.s n) f)] [(1, ⟨w, o, .rows 5 N row⟩)] =
    some ⟨.c (.sl 2 0 5 (.s n) true), [(2, some ⟨true, true, .rows 5 n (cpR n row)⟩)], 60, [decide (n = n ∧ 0 ≤ n ∧ n ≤ 100000000), flatR row, flatR Z0, pB (PreT n n 0 N row n Z0)]⟩ := by kernel_rfl
def toH : CS := fun base args rd => match args with
  | [.c (.sl i o es (.s n) _)] => match rd with
    | [(j, ⟨_, _, .rows st N row⟩)] => match Nat.beq base 2 && (Nat.beq i 1 && (Nat.beq o 0 && (Nat.beq es 5 && (Nat.beq j 1 && Nat.beq st 5)))) with
      | true => some ⟨.c (.sl 2 0 5 (.s n) true), [(2, some ⟨true, true, .rows 5 n (cpR n row)⟩)], 60, [okN n N row]⟩
      | false => none
    | _ => none
  | _ => none
set_option maxRecDepth 100000 in
theorem cTo0 : CallOK Try.prog 16 (inl (cxT fops) Try.f16 ⟨fun _ => none, lpOf [(3, LT fops)]⟩) := by
  have hb : Try.f16.body.isSome = true := by kernel_rfl
  obtain ⟨c, hc⟩ := Option.isSome_iff_exists.1 hb
  have h1 : (match Try.f16.body with | some c => onceB (loopsIn c) && (match loopAt 3 (loopsIn c) with | some _ => true | none => false) | none => false) = true := by kernel_rfl
  rw [hc] at h1
  simp only [Bool.and_eq_true] at h1
  exact inlL_of (l := []) (ls := [(3, LT fops)]) trivial mixed 8 Try.func16 (by kernel_rfl) (fun _ => none) hc h1.1 ⟨⟨_, bodyOf_at hc h1.2, okT⟩, trivial⟩
def toC (O : FOps) : CS := orS (canS toH) (inl (cxT O) Try.f16 noH)
set_option maxRecDepth 100000 in
theorem cToC : CallOK Try.prog 16 (toC fops) :=
  (CallOK.hand (H := toH) cTo0.nw fun b args rd e h hob => by
    unfold toH at h
    split at h <;> try (cases h; done)
    rename_i i o es n f
    split at h <;> try (cases h; done)
    rename_i j w o' st N row
    split at h <;> cases h
    rename_i hc
    simp only [Bool.and_eq_true, beqN] at hc
    obtain ⟨rfl, rfl, rfl, rfl, rfl, rfl⟩ := hc
    obtain ⟨rfl, h0, hm, hs⟩ := pB_iff.1 hob.head
    exact ⟨_, to_run fops f w o' N N row, AllT.cons (by simp; omega) (AllT.cons (shape_flat hs) (AllT.cons (rowK_flat _ _ _) (AllT.cons (pB_iff.2 ⟨rfl, rfl, rfl, rfl, h0, hm, hs, rfl⟩) AllT.nil)))⟩).can.or
    (inlN_of (l := []) trivial mixed 8 Try.func16 (by kernel_rfl) (fun _ => none))
set_option maxRecDepth 100000 in
theorem ma_run (O : FOps) (f o : Bool) (n N : Int) (u : SI) (row : Int → List SC) : inl (cxT O) Try.f25 ⟨fun _ => none, lpOf [(2, LM O)]⟩ 2 [.c (.sl 1 0 5 (.s n) f), .c (.int .i64 u)] [(1, ⟨true, o, .rows 5 N row⟩)] =
    some ⟨.c (.int .i64 (.s (u.val + 5 * n))), [(1, some ⟨true, false, .rows 5 n (mkR O u.val n row)⟩)], 60, [flatR row, pB (PreM n u.val 0 N row)]⟩ := by kernel_rfl
def maH (O : FOps) : CS := fun base args rd => match args with
  | [.c (.sl i o es (.s n) _), .c (.int .i64 u)] => match rd with
    | [(j, ⟨true, _, .rows st N row⟩)] => match Nat.beq base 2 && (Nat.beq i 1 && (Nat.beq o 0 && (Nat.beq es 5 && (Nat.beq j 1 && Nat.beq st 5)))) with
      | true => some ⟨.c (.int .i64 (.s (u.val + 5 * n))), [(1, some ⟨true, false, .rows 5 n (mkR O u.val n row)⟩)], 60, [okM' n u.val N row]⟩
      | false => none
    | _ => none
  | _ => none
set_option maxRecDepth 100000 in
theorem cMa0 : CallOK Try.prog 25 (inl (cxT fops) Try.f25 ⟨fun _ => none, lpOf [(2, LM fops)]⟩) := by
  have hb : Try.f25.body.isSome = true := by kernel_rfl
  obtain ⟨c, hc⟩ := Option.isSome_iff_exists.1 hb
  have h1 : (match Try.f25.body with | some c => onceB (loopsIn c) && (match loopAt 2 (loopsIn c) with | some _ => true | none => false) | none => false) = true := by kernel_rfl
  rw [hc] at h1
  simp only [Bool.and_eq_true] at h1
  exact inlL_of (l := []) (ls := [(2, LM fops)]) trivial mixed 8 Try.func25 (by kernel_rfl) (fun _ => none) hc h1.1 ⟨⟨_, bodyOf_at hc h1.2, okM⟩, trivial⟩
def maC (O : FOps) : CS := orS (canS (maH O)) (inl (cxT O) Try.f25 noH)
set_option maxRecDepth 100000 in
theorem cMaC : CallOK Try.prog 25 (maC fops) :=
  (CallOK.hand (H := maH fops) cMa0 fun b args rd e h hob => by
    unfold maH at h
    split at h <;> try (cases h; done)
    rename_i i o es n f u
    split at h <;> try (cases h; done)
    rename_i j o' st N row
    split at h <;> cases h
    rename_i hc
    simp only [Bool.and_eq_true, beqN] at hc
    obtain ⟨rfl, rfl, rfl, rfl, rfl, rfl⟩ := hc
    obtain ⟨rfl, h0, hm, hu, hu1, hs⟩ := pB_iff.1 hob.head
    exact ⟨_, ma_run fops f o' N N u row, AllT.cons (shape_flat hs) (AllT.cons (pB_iff.2 ⟨rfl, rfl, h0, hm, hu, hu1, hs⟩) AllT.nil)⟩).can.or
    (inlN_of (l := []) trivial mixed 8 Try.func25 (by kernel_rfl) (fun _ => none))
def heH : CS := fun base args rd => match args with
  | [.c (.sl i o es (.s n) _), .c (.int .i64 u)] => match rd with
    | [(j, ⟨_, _, .rows st N row⟩)] => match Nat.beq base 2 && (Nat.beq i 1 && (Nat.beq o 0 && (Nat.beq es 5 && (Nat.beq j 1 && Nat.beq st 5)))) with
      | true => some ⟨.c (.int .i64 (.s (u.val + 5 * n))), [], 60, [okH' n u.val N row]⟩
      | false => none
    | _ => none
  | _ => none
theorem marked_shape {u n : Int} {row : Int → List SC} (h : Marked u n row) : Shape ts row := by
  obtain ⟨X, Y, rfl⟩ := h
  exact shape_row _ _
theorem mkR_marked (u n : Int) (row : Int → List SC) : Marked u n (mkR fops u n row) := ⟨_, _, rfl⟩
set_option maxRecDepth 100000 in
theorem eq_run (O : FOps) (f w o f' w' o' : Bool) (n N m M : Int) (row row' : Int → List SC) : roS (inl (cxQ O) Try.f18 ⟨fun _ => none, lpOf [(4, LE O)]⟩) 3 [.c (.sl 2 0 5 (.s n) f), .c (.sl 1 0 5 (.s m) f')] [(1, ⟨w', o', .rows 5 M row'⟩), (2, ⟨w, o, .rows 5 N row⟩)] =
    some ⟨.c (.bool (.s (eqR O n m row row'))), [], 60, gdB (!decide (n = m)) [flatR row', flatR row, pB (PreQ n m 0 N row M row')]⟩ := by kernel_rfl
def eqH (O : FOps) : CS := fun base args rd => match args with
  | [.c (.sl i o es (.s n) _), .c (.sl i' o' es' (.s m) _)] => match rd with
    | [(j', ⟨_, _, .rows st' M row'⟩), (j, ⟨_, _, .rows st N row⟩)] => match Nat.beq base 3 && (Nat.beq i 2 && (Nat.beq o 0 && (Nat.beq es 5 && (Nat.beq j 2 && (Nat.beq st 5 && (Nat.beq i' 1 && (Nat.beq o' 0 && (Nat.beq es' 5 && (Nat.beq j' 1 && Nat.beq st' 5))))))))) with
      | true => some ⟨.c (.bool (.s (eqR O n m row row'))), [], 60, [okE' n N row m M row']⟩
      | false => none
    | _ => none
  | _ => none
set_option maxRecDepth 100000 in
theorem cEq0 : CallOK Try.prog 18 (inl (cxQ fops) Try.f18 ⟨fun _ => none, lpOf [(4, LE fops)]⟩) := by
  have hb : Try.f18.body.isSome = true := by kernel_rfl
  obtain ⟨c, hc⟩ := Option.isSome_iff_exists.1 hb
  have h1 : (match Try.f18.body with | some c => onceB (loopsIn c) && (match loopAt 4 (loopsIn c) with | some _ => true | none => false) | none => false) = true := by kernel_rfl
  rw [hc] at h1
  simp only [Bool.and_eq_true] at h1
  exact inlL_of (l := LQ fops) (ls := [(4, LE fops)]) okLQ mixed 8 Try.func18 (by kernel_rfl) (fun _ => none) hc h1.1 ⟨⟨_, bodyOf_at hc h1.2, okE⟩, trivial⟩
def eqC (O : FOps) : CS := orS (canS (eqH O)) (inl (cxQ O) Try.f18 noH)
set_option maxRecDepth 100000 in
theorem cEqC : CallOK Try.prog 18 (eqC fops) :=
  (CallOK.hand (H := eqH fops) cEq0.ro fun b args rd e h hob => by
    unfold eqH at h
    split at h <;> try (cases h; done)
    rename_i i o es n f i' o' es' m f'
    split at h <;> try (cases h; done)
    rename_i j' w' p' st' M row' j w p st N row
    split at h <;> cases h
    rename_i hc
    simp only [Bool.and_eq_true, beqN] at hc
    obtain ⟨rfl, rfl, rfl, rfl, rfl, rfl, rfl, rfl, rfl, rfl, rfl⟩ := hc
    refine ⟨_, eq_run fops f w p f' w' p' n N m M row row', gdB_ok fun hg => ?_⟩
    have hnm : decide (n = m) = true := by simpa using hg
    have ho := hob.head
    unfold okE' at ho
    rw [hnm] at ho
    obtain ⟨e1, e2, h0, hm, hs, hs'⟩ := pB_iff.1 (show pB _ = true from ho)
    exact AllT.cons (shape_flat hs') (AllT.cons (shape_flat hs) (AllT.cons (pB_iff.2 ⟨(of_decide_eq_true hnm).symm, rfl, e1, e2, h0, hm, hs, hs'⟩) AllT.nil))).can.or
    (inlN_of (l := LQ fops) okLQ mixed 8 Try.func18 (by kernel_rfl) (fun _ => none))
end
end Go.Proofs.Ytaoeigofmfpamaa.SlFlue
end

/- A flue that is valid. Nothing is assumed. -/
section
namespace Go.Proofs.Ytaoeigofmfpamaa
open Go
noncomputable section
def flueB (O : FOps) (a b c d : Nat) : Bool :=
  bif decide (a < 2139095040) then bif O.cmp .geq .f32 a 1031798784 then bif O.cmp .leq .f32 a 1106247680 then
  bif decide (b < 2139095040) then bif O.cmp .geq .f32 b 1015021568 then bif O.cmp .leq .f32 b 1082130432 then
  bif (bif O.cmp .geq .f32 c 3262119936 then O.cmp .leq .f32 c 1153138688 else false) then bif decide (d < 2139095040) then O.cmp .leq .f32 d 1065353216 else false
  else false else false else false else false else false else false else false
def flueB' (O : FOps) (a b c d : Nat) : Bool :=
  bif decide (a < 2139095040) then bif (bif O.cmp .geq .f32 a 1031798784 then O.cmp .leq .f32 a 1106247680 else false) then
  bif decide (b < 2139095040) then bif (bif O.cmp .geq .f32 b 1015021568 then O.cmp .leq .f32 b 1082130432 else false) then
  bif (bif O.cmp .geq .f32 c 3262119936 then O.cmp .leq .f32 c 1153138688 else false) then bif decide (d < 2139095040) then O.cmp .leq .f32 d 1065353216 else false
  else false else false else false else false else false
theorem flueB_eq (O : FOps) (a b c d : Nat) : flueB' O a b c d = flueB O a b c d := by
  unfold flueB flueB'
  cases O.cmp .geq .f32 a 1031798784 <;> cases O.cmp .geq .f32 b 1015021568 <;> rfl
def flueG (O : FOps) : List SV → Option SV
  | [.a [.flt .f32 a, .flt .f32 b, .flt .f32 c, .flt .f32 d, .int .i64 _]] => some (.c (.bool (.s (flueB O a b c d))))
  | _ => none
def amL : List (Nat × CS) := [(73, amtS), (90, amtS)]
set_option maxRecDepth 100000 in
theorem okAm : AllOK Try.prog amL := ⟨cAmtI, cAmtL, trivial⟩
set_option maxRecDepth 100000 in
theorem cFlueI : CallOK Try.prog 95 (gS (flueG fops)) :=
  gS_of2 (inlN_of (l := amL) okAm mixed 8 Try.func95 (by kernel_rfl) (fun _ => none)) fun args r E vals hG hr => by
    unfold flueG at hG
    split at hG <;> cases hG
    rename_i a b c d n
    have h : ∀ O : FOps, rE 1 (inl ⟨Try.prog, O, orcN Try.prog O amL 8⟩ Try.f95 ⟨fun _ => none, fun _ => none⟩ 1 [.a [.flt .f32 a, .flt .f32 b, .flt .f32 c, .flt .f32 d, .int .i64 n]] []) = some (.c (.bool (.s (flueB' O a b c d))), []) := fun O => by kernel_rfl
    refine ⟨rfl, _, _, h fops, rfl, AllT.nil, fun _ _ h => ?_⟩
    rw [flueB_eq] at h; exact h
set_option maxRecDepth 100000 in
theorem cFlueL : CallOK Try.prog 81 (gQ [.p 5] (flueG fops)) :=
  gQ_of2 (inlN_of (l := amL) okAm mixed 8 Try.func81 (by kernel_rfl) (fun _ => none)) fun dl r E hG hv => by
    unfold flueG at hG
    split at hG <;> cases hG
    rename_i a b c d n
    have h : ∀ O : FOps, rE 2 (inl ⟨Try.prog, O, orcN Try.prog O amL 8⟩ Try.f81 ⟨fun _ => none, fun _ => none⟩ 2 [.c (.ptr 1 0)] [(1, ⟨false, false, .cells [.flt .f32 a, .flt .f32 b, .flt .f32 c, .flt .f32 d, .int .i64 n]⟩)]) = some (.c (.bool (.s (flueB O a b c d))), []) := fun O => by kernel_rfl
    exact ⟨_, _, h fops, rfl, AllT.nil, fun _ _ h => h⟩
end
end Go.Proofs.Ytaoeigofmfpamaa
end

/- Chimneys: validity, sameness, with any number of flues. Nothing is assumed. -/
section
namespace Go.Proofs.Ytaoeigofmfpamaa.Chy
open Go SlFlue
noncomputable section
noncomputable def hint (l : List (Nat × Bool)) (t : Nat) : Option Bool := List.rec (motive := fun _ => Option Bool) none (fun p _ ih => bif Nat.beq t p.1 then some p.2 else ih) l
noncomputable def bnd (n k : Int) : Bool := decide (0 ≤ k ∧ k < n)
theorem bnd_ok {n k : Int} (h0 : 0 ≤ k) (h1 : k < n) : bnd n k = true := by unfold bnd; simp; omega
theorem AllT.one {b : Bool} (h : b = true) : AllT [b] := AllT.cons h AllT.nil
theorem wrap_in {x : Int} (h0 : -9223372036854775808 ≤ x) (h1 : x < 9223372036854775808) : IntKind.i64.wrap x = x := by
  unfold IntKind.wrap
  have hb : IntKind.bits IntKind.i64 = 64 := rfl
  have hs : IntKind.signed IntKind.i64 = true := rfl
  rw [hb, hs]
  by_cases hx : 0 ≤ x
  · have e : x % 2 ^ 64 = x := Int.emod_eq_of_lt hx (by omega)
    rw [e]
    simp; omega
  · have e : x % 2 ^ 64 = x + 18446744073709551616 := by omega
    rw [e]
    simp; omega
/-! ### validity -/
noncomputable def LV (O : FOps) : List (Nat × CS) := [(95, gS (flueG O)), (81, gQ [.p 5] (flueG O))]
set_option maxRecDepth 100000 in
theorem okLV : AllOK Try.prog (LV fops) := ⟨cFlueI, cFlueL, trivial⟩
noncomputable def cxV (O : FOps) : Cx := ⟨Try.prog, O, orcN Try.prog O (LV O) 8⟩
noncomputable def fk (O : FOps) (F : Nat → Int → Nat) (k : Int) : Bool := flueB O (F 0 k) (F 1 k) (F 2 k) (F 3 k)
noncomputable def bI (n k x y : Int) : Bool := bif decide (x < 0) then true else bif decide (n ≤ x) then true else bif decide (x = k) then true else !decide (y = -1)
noncomputable def inS (n x : Int) : Bool := bif decide (0 ≤ x) then decide (x ≤ IntKind.i64.wrap (n - 1)) else false
noncomputable def bS (n k x y : Int) : Bool := bif !inS n x then true else bif decide (x = k) then true else !decide (y = -1)
theorem inS_eq {n : Int} (h0 : 0 ≤ n) (h1 : n ≤ 1048576) (x : Int) : inS n x = bif decide (x < 0) then false else !decide (n ≤ x) := by
  unfold inS
  rw [wrap_in (by omega) (by omega)]
  by_cases h : x < 0
  · rw [decide_eq_true h, decide_eq_false (by omega : ¬ 0 ≤ x)]; rfl
  · rw [decide_eq_false h, decide_eq_true (by omega : 0 ≤ x)]
    by_cases h2 : n ≤ x
    · rw [decide_eq_true h2, decide_eq_false (by omega : ¬ x ≤ n - 1)]; rfl
    · rw [decide_eq_false h2, decide_eq_true (by omega : x ≤ n - 1)]; rfl
theorem bS_eq {n : Int} (h0 : 0 ≤ n) (h1 : n ≤ 1048576) (k x y : Int) : bS n k x y = bI n k x y := by
  unfold bS bI
  rw [inS_eq h0 h1]
  cases decide (x < 0) <;> cases decide (n ≤ x) <;> rfl
/-- A flue of the chimney is as it must be. -/
noncomputable def qC (O : FOps) (n : Int) (F : Nat → Int → Nat) (G : Nat → Int → Int) (k : Int) : Bool := bif fk O F k then (bif decide (G 4 k = -1) then true else !bI n k (G 4 k) (G 4 (G 4 k))) else false
noncomputable def hdI (n k : Int) : List Bool := [decide (k < n), bnd n k, bnd n k]
noncomputable def idI (n k x : Int) : List Bool := gdB (decide (x < 0)) (gdB (decide (n ≤ x)) (gdB (decide (x = k)) [bnd n x, bnd n x]))
noncomputable def idS (n k x : Int) : List Bool := [bnd n k, bnd n k] ++ gdB (!inS n x) [bnd n k, bnd n k] ++ gdB (!inS n x) (gdB (decide (x = k)) [bnd n k, bnd n k, bnd n x, bnd n x])
theorem hdI_ok {n k : Int} (h0 : 0 ≤ k) (h1 : k < n) : AllT (hdI n k) := AllT.cons (by simpa using h1) (AllT.cons (bnd_ok h0 h1) (AllT.one (bnd_ok h0 h1)))
theorem idI_ok (n k x : Int) : AllT (idI n k x) := gdB_ok fun e1 => gdB_ok fun e2 => gdB_ok fun _ => by
  have h1 := of_decide_eq_false e1
  have h2 := of_decide_eq_false e2
  exact AllT.cons (bnd_ok (by omega) (by omega)) (AllT.one (bnd_ok (by omega) (by omega)))
theorem idS_ok {n k : Int} (h0 : 0 ≤ k) (h1 : k < n) (hn : n ≤ 1048576) (x : Int) : AllT (idS n k x) := by
  have b := bnd_ok h0 h1
  refine AllT.app (AllT.app (AllT.cons b (AllT.one b)) (gdB_ok fun _ => AllT.cons b (AllT.one b))) (gdB_ok fun e => gdB_ok fun _ => ?_)
  have e' : inS n x = true := by simpa using e
  rw [inS_eq (by omega) hn] at e'
  have hx : bnd n x = true := by
    by_cases h2 : x < 0
    · rw [decide_eq_true h2] at e'; cases e'
    · by_cases h3 : n ≤ x
      · rw [decide_eq_false h2, decide_eq_true h3] at e'; cases e'
      · exact bnd_ok (by omega) (by omega)
  exact AllT.cons b (AllT.cons b (AllT.cons hx (AllT.one hx)))
noncomputable def skR : Sk := ⟨[(2, .c (.boolc false))], [], 2⟩
noncomputable def skE : Sk := ⟨[], [], 2⟩
/-! ### impl.ValidChimney -/
noncomputable def skI : Sk := ⟨[(0, .c (.sl 1 0 5 false)), (13, .c (.sl 1 0 5 false)), (14, .c (.int .i64)), (15, .c (.int .i64))], [(1, ⟨false, false, .rows 5⟩)], 2⟩
noncomputable def NI : Nat := Try.f84.ntmps
noncomputable def goI (O : FOps) (h : List (Nat × Bool)) (s : Sk) (F : Nat → Int → Nat) (G : Nat → Int → Int) (n k : Int) : Option (Option XK × List LD × List Bool) :=
  goL (cxV O) NI ⟨hint h, fun _ => none⟩ (bodyOf Try.f84 4) 2 60 skI [] s [.i n, .i n, .i n, .i k, .i n, .r (Row F G)]
noncomputable def hIa : List (Nat × Bool) := [(16, true), (22, false), (25, true)]
noncomputable def hIb : List (Nat × Bool) := [(16, true), (22, false), (25, false), (50, false)]
noncomputable def hIc : List (Nat × Bool) := [(16, true), (22, true)]
noncomputable def hId : List (Nat × Bool) := [(16, true), (22, false), (25, false), (50, true)]
noncomputable def hIe : List (Nat × Bool) := [(16, false)]
set_option maxRecDepth 100000 in
theorem raI (O : FOps) (F : Nat → Int → Nat) (G : Nat → Int → Int) (n k : Int) : goI O hIa skI F G n k = some (none, [.i n, .i n, .i n, .i (IntKind.i64.wrap (k + 1)), .i n, .r (Row F G)], hdI n k ++ ([!!fk O F k] ++ ([] : List Bool) ++ [decide (G 4 k = -1), flatR (Row F G)])) := by kernel_rfl
set_option maxRecDepth 100000 in
theorem rbI (O : FOps) (F : Nat → Int → Nat) (G : Nat → Int → Int) (n k : Int) : goI O hIb skI F G n k = some (none, [.i n, .i n, .i n, .i (IntKind.i64.wrap (k + 1)), .i n, .r (Row F G)], hdI n k ++ ([!!fk O F k] ++ ([] : List Bool) ++ [!decide (G 4 k = -1)] ++ idI n k (G 4 k) ++ [!bI n k (G 4 k) (G 4 (G 4 k)), flatR (Row F G)])) := by kernel_rfl
set_option maxRecDepth 100000 in
theorem rcI (O : FOps) (F : Nat → Int → Nat) (G : Nat → Int → Int) (n k : Int) : goI O hIc skR F G n k = some (some .ret, [], hdI n k ++ [!fk O F k]) := by kernel_rfl
set_option maxRecDepth 100000 in
theorem rdI (O : FOps) (F : Nat → Int → Nat) (G : Nat → Int → Int) (n k : Int) : goI O hId skR F G n k = some (some .ret, [], hdI n k ++ ([!!fk O F k] ++ ([] : List Bool) ++ [!decide (G 4 k = -1)] ++ idI n k (G 4 k) ++ [bI n k (G 4 k) (G 4 (G 4 k))])) := by kernel_rfl
set_option maxRecDepth 100000 in
theorem reI (O : FOps) (F : Nat → Int → Nat) (G : Nat → Int → Int) (n k : Int) : goI O hIe skE F G n k = some (some (.exit 0), [], [!decide (k < n)]) := by kernel_rfl
theorem loI (F : Nat → Int → Nat) (G : Nat → Int → Int) (n : Int) (hn : n ≤ 1048576) : ∀ (m : Nat) (k : Int), 0 ≤ k → k + m = n →
    (eqFrom (qC fops n F G) k m = true → Loops (cxV fops) NI (fun _ => none) (bodyOf Try.f84 4) 2 60 skI [.i n, .i n, .i n, .i k, .i n, .r (Row F G)] (.exit 0) skE []) ∧
    (eqFrom (qC fops n F G) k m = false → Loops (cxV fops) NI (fun _ => none) (bodyOf Try.f84 4) 2 60 skI [.i n, .i n, .i n, .i k, .i n, .r (Row F G)] .ret skR []) := by
  have fl : flatR (Row F G) = true := rowK_flat _ _ _
  intro m
  induction m with
  | zero =>
    intro k hk hkn
    have e : k = n := by omega
    subst e
    refine ⟨fun _ => .done (ts := hint hIe) (ρ := []) (reI fops F G k k) (AllT.one (by simp)), fun h => by cases h⟩
  | succ m ih =>
    intro k hk hkn
    have hlt : k < n := by omega
    obtain ⟨i1, i2⟩ := ih (k + 1) (by omega) (by omega)
    have hE : eqFrom (qC fops n F G) k (m + 1) = bif qC fops n F G k then eqFrom (qC fops n F G) (k + 1) m else false := rfl
    have hq : qC fops n F G k = bif fk fops F k then (bif decide (G 4 k = -1) then true else !bI n k (G 4 k) (G 4 (G 4 k))) else false := rfl
    have hh := hdI_ok hk hlt
    have hb := bnd_ok hk hlt
    have hm : AllT ([] : List Bool) := AllT.nil
    rw [hE, hq]
    cases hf : fk fops F k with
    | false => exact ⟨fun h => (by cases h), fun _ => .done (ts := hint hIc) (ρ := []) (rcI fops F G n k) (AllT.app hh (AllT.one (by rw [hf]; rfl)))⟩
    | true =>
      cases hx : decide (G 4 k = -1) with
      | true =>
        have h1 := raI fops F G n k
        rw [wrap_succ hk (by omega)] at h1
        have ho : AllT (hdI n k ++ ([!!fk fops F k] ++ ([] : List Bool) ++ [decide (G 4 k = -1), flatR (Row F G)])) := AllT.app hh (AllT.app (AllT.app (AllT.one (by rw [hf]; rfl)) hm) (AllT.cons hx (AllT.one fl)))
        exact ⟨fun h => .step (ts := hint hIa) (ρ := []) h1 ho (i1 h), fun h => .step (ts := hint hIa) (ρ := []) h1 ho (i2 h)⟩
      | false =>
        have hid : AllT (idI n k (G 4 k)) := idI_ok _ _ _
        have hbb : bI n k (G 4 k) (G 4 (G 4 k)) = bI n k (G 4 k) (G 4 (G 4 k)) := rfl
        cases hy : bI n k (G 4 k) (G 4 (G 4 k)) with
        | false =>
          have h1 := rbI fops F G n k
          rw [wrap_succ hk (by omega)] at h1
          have ho : AllT (hdI n k ++ ([!!fk fops F k] ++ ([] : List Bool) ++ [!decide (G 4 k = -1)] ++ idI n k (G 4 k) ++ [!bI n k (G 4 k) (G 4 (G 4 k)), flatR (Row F G)])) := AllT.app hh (AllT.app (AllT.app (AllT.app (AllT.app (AllT.one (by rw [hf]; rfl)) hm) (AllT.one (by rw [hx]; rfl))) hid) (AllT.cons (by rw [hbb, hy]; rfl) (AllT.one fl)))
          exact ⟨fun h => .step (ts := hint hIb) (ρ := []) h1 ho (i1 h), fun h => .step (ts := hint hIb) (ρ := []) h1 ho (i2 h)⟩
        | true =>
          have ho : AllT (hdI n k ++ ([!!fk fops F k] ++ ([] : List Bool) ++ [!decide (G 4 k = -1)] ++ idI n k (G 4 k) ++ [bI n k (G 4 k) (G 4 (G 4 k))])) := AllT.app hh (AllT.app (AllT.app (AllT.app (AllT.app (AllT.one (by rw [hf]; rfl)) hm) (AllT.one (by rw [hx]; rfl))) hid) (AllT.one (by rw [hbb, hy])))
          exact ⟨fun h => (by cases h), fun _ => .done (ts := hint hId) (ρ := []) (rdI fops F G n k) ho⟩
def PI (n n1 n2 k N : Int) (row : Int → List SC) : Prop := n1 = n ∧ n2 = n ∧ k = 0 ∧ N = n ∧ 0 ≤ n ∧ n ≤ 1048576 ∧ Shape ts row
noncomputable def FI (O : FOps) : List LD → Option (XO × List Bool)
  | [.i n, .i n1, .i n2, .i k, .i N, .r row] => some ([(.s (!eqFrom (qC O n (datF row) (datG row)) 0 n.toNat), .ret, skR, []), (.t, .exit 0, skE, [])], [pB (PI n n1 n2 k N row)])
  | _ => none
noncomputable def LIv (O : FOps) : List Ly → Top → Option Outs := orIter (cxV O) NI (bodyOf Try.f84 4) (loopL NI 2 60 skI [] (FI O))
set_option maxRecDepth 100000 in
theorem okI : CodeOK Try.prog NI (.loop (bodyOf Try.f84 4)) (LIv fops) := by
  refine orIter_ok (l := LV fops) okLV mixed 8 (loopL_ok (cx := cxV fops) (lp := fun _ => none) (fun ts => body_ok (l := LV fops) okLV mixed 8 _ ts) fun p r hr hob => ?_)
  unfold FI at hr
  split at hr <;> cases hr
  rename_i n n1 n2 k N row
  obtain ⟨f0, f1, e1, e2, h0, hm, hs⟩ := pB_iff.1 hob.head
  obtain ⟨h1, h2⟩ := loI (datF row) (datG row) n hm n.toNat 0 (Int.le_refl _) (by omega)
  have hs1 : Row (datF row) (datG row) = row := hs.symm
  rw [hs1] at h1 h2
  rw [e1, e2, f0, f1]
  cases hq : eqFrom (qC fops n (datF row) (datG row)) 0 n.toNat with
  | true => exact ⟨.exit 0, skE, [], by simp [pickX, SB.val], h1 hq⟩
  | false => exact ⟨.ret, skR, [], by simp [pickX, SB.val], h2 hq⟩
set_option maxRecDepth 100000 in
theorem cI0 : CallOK Try.prog 84 (inl (cxV fops) Try.f84 ⟨fun _ => none, lpOf [(4, LIv fops)]⟩) := by
  have hb : Try.f84.body.isSome = true := by kernel_rfl
  obtain ⟨c, hc⟩ := Option.isSome_iff_exists.1 hb
  have h1 : (match Try.f84.body with | some c => onceB (loopsIn c) && (match loopAt 4 (loopsIn c) with | some _ => true | none => false) | none => false) = true := by kernel_rfl
  rw [hc] at h1
  simp only [Bool.and_eq_true] at h1
  exact inlL_of (l := LV fops) (ls := [(4, LIv fops)]) okLV mixed 8 Try.func84 (by kernel_rfl) (fun _ => none) hc h1.1 ⟨⟨_, bodyOf_at hc h1.2, okI⟩, trivial⟩
/-! ### spec.l03Ok -/
noncomputable def skS : Sk := ⟨[(0, .c (.sl 1 0 5 false)), (3, .c (.int .i64)), (4, .c (.int .i64))], [(1, ⟨false, false, .rows 5⟩)], 2⟩
noncomputable def NS : Nat := Try.f51.ntmps
noncomputable def goS (O : FOps) (h : List (Nat × Bool)) (s : Sk) (F : Nat → Int → Nat) (G : Nat → Int → Int) (n k : Int) : Option (Option XK × List LD × List Bool) :=
  goL (cxV O) NS ⟨hint h, fun _ => none⟩ (bodyOf Try.f51 5) 2 60 skS [] s [.i n, .i n, .i k, .i n, .r (Row F G)]
noncomputable def hSa : List (Nat × Bool) := [(12, true), (19, false), (25, true)]
noncomputable def hSb : List (Nat × Bool) := [(12, true), (19, false), (25, false), (55, false)]
noncomputable def hSc : List (Nat × Bool) := [(12, true), (19, true)]
noncomputable def hSd : List (Nat × Bool) := [(12, true), (19, false), (25, false), (55, true)]
noncomputable def hSe : List (Nat × Bool) := [(12, false)]
set_option maxRecDepth 100000 in
theorem raS (O : FOps) (F : Nat → Int → Nat) (G : Nat → Int → Int) (n k : Int) : goS O hSa skS F G n k = some (none, [.i n, .i n, .i (IntKind.i64.wrap (k + 1)), .i n, .r (Row F G)], hdI n k ++ ([!!fk O F k] ++ [bnd n k, bnd n k] ++ [decide (G 4 k = -1), flatR (Row F G)])) := by kernel_rfl
set_option maxRecDepth 100000 in
theorem rbS (O : FOps) (F : Nat → Int → Nat) (G : Nat → Int → Int) (n k : Int) : goS O hSb skS F G n k = some (none, [.i n, .i n, .i (IntKind.i64.wrap (k + 1)), .i n, .r (Row F G)], hdI n k ++ ([!!fk O F k] ++ [bnd n k, bnd n k] ++ [!decide (G 4 k = -1)] ++ idS n k (G 4 k) ++ [!bS n k (G 4 k) (G 4 (G 4 k)), flatR (Row F G)])) := by kernel_rfl
set_option maxRecDepth 100000 in
theorem rcS (O : FOps) (F : Nat → Int → Nat) (G : Nat → Int → Int) (n k : Int) : goS O hSc skR F G n k = some (some .ret, [], hdI n k ++ [!fk O F k]) := by kernel_rfl
set_option maxRecDepth 100000 in
theorem rdS (O : FOps) (F : Nat → Int → Nat) (G : Nat → Int → Int) (n k : Int) : goS O hSd skR F G n k = some (some .ret, [], hdI n k ++ ([!!fk O F k] ++ [bnd n k, bnd n k] ++ [!decide (G 4 k = -1)] ++ idS n k (G 4 k) ++ [bS n k (G 4 k) (G 4 (G 4 k))])) := by kernel_rfl
set_option maxRecDepth 100000 in
theorem reS (O : FOps) (F : Nat → Int → Nat) (G : Nat → Int → Int) (n k : Int) : goS O hSe skE F G n k = some (some (.exit 0), [], [!decide (k < n)]) := by kernel_rfl
theorem loS (F : Nat → Int → Nat) (G : Nat → Int → Int) (n : Int) (hn : n ≤ 1048576) : ∀ (m : Nat) (k : Int), 0 ≤ k → k + m = n →
    (eqFrom (qC fops n F G) k m = true → Loops (cxV fops) NS (fun _ => none) (bodyOf Try.f51 5) 2 60 skS [.i n, .i n, .i k, .i n, .r (Row F G)] (.exit 0) skE []) ∧
    (eqFrom (qC fops n F G) k m = false → Loops (cxV fops) NS (fun _ => none) (bodyOf Try.f51 5) 2 60 skS [.i n, .i n, .i k, .i n, .r (Row F G)] .ret skR []) := by
  have fl : flatR (Row F G) = true := rowK_flat _ _ _
  intro m
  induction m with
  | zero =>
    intro k hk hkn
    have e : k = n := by omega
    subst e
    refine ⟨fun _ => .done (ts := hint hSe) (ρ := []) (reS fops F G k k) (AllT.one (by simp)), fun h => by cases h⟩
  | succ m ih =>
    intro k hk hkn
    have hlt : k < n := by omega
    obtain ⟨i1, i2⟩ := ih (k + 1) (by omega) (by omega)
    have hE : eqFrom (qC fops n F G) k (m + 1) = bif qC fops n F G k then eqFrom (qC fops n F G) (k + 1) m else false := rfl
    have hq : qC fops n F G k = bif fk fops F k then (bif decide (G 4 k = -1) then true else !bI n k (G 4 k) (G 4 (G 4 k))) else false := rfl
    have hh := hdI_ok hk hlt
    have hb := bnd_ok hk hlt
    have hm : AllT [bnd n k, bnd n k] := AllT.cons hb (AllT.one hb)
    rw [hE, hq]
    cases hf : fk fops F k with
    | false => exact ⟨fun h => (by cases h), fun _ => .done (ts := hint hSc) (ρ := []) (rcS fops F G n k) (AllT.app hh (AllT.one (by rw [hf]; rfl)))⟩
    | true =>
      cases hx : decide (G 4 k = -1) with
      | true =>
        have h1 := raS fops F G n k
        rw [wrap_succ hk (by omega)] at h1
        have ho : AllT (hdI n k ++ ([!!fk fops F k] ++ [bnd n k, bnd n k] ++ [decide (G 4 k = -1), flatR (Row F G)])) := AllT.app hh (AllT.app (AllT.app (AllT.one (by rw [hf]; rfl)) hm) (AllT.cons hx (AllT.one fl)))
        exact ⟨fun h => .step (ts := hint hSa) (ρ := []) h1 ho (i1 h), fun h => .step (ts := hint hSa) (ρ := []) h1 ho (i2 h)⟩
      | false =>
        have hid : AllT (idS n k (G 4 k)) := idS_ok hk hlt hn _
        have hbb : bS n k (G 4 k) (G 4 (G 4 k)) = bI n k (G 4 k) (G 4 (G 4 k)) := bS_eq (by omega) hn _ _ _
        cases hy : bI n k (G 4 k) (G 4 (G 4 k)) with
        | false =>
          have h1 := rbS fops F G n k
          rw [wrap_succ hk (by omega)] at h1
          have ho : AllT (hdI n k ++ ([!!fk fops F k] ++ [bnd n k, bnd n k] ++ [!decide (G 4 k = -1)] ++ idS n k (G 4 k) ++ [!bS n k (G 4 k) (G 4 (G 4 k)), flatR (Row F G)])) := AllT.app hh (AllT.app (AllT.app (AllT.app (AllT.app (AllT.one (by rw [hf]; rfl)) hm) (AllT.one (by rw [hx]; rfl))) hid) (AllT.cons (by rw [hbb, hy]; rfl) (AllT.one fl)))
          exact ⟨fun h => .step (ts := hint hSb) (ρ := []) h1 ho (i1 h), fun h => .step (ts := hint hSb) (ρ := []) h1 ho (i2 h)⟩
        | true =>
          have ho : AllT (hdI n k ++ ([!!fk fops F k] ++ [bnd n k, bnd n k] ++ [!decide (G 4 k = -1)] ++ idS n k (G 4 k) ++ [bS n k (G 4 k) (G 4 (G 4 k))])) := AllT.app hh (AllT.app (AllT.app (AllT.app (AllT.app (AllT.one (by rw [hf]; rfl)) hm) (AllT.one (by rw [hx]; rfl))) hid) (AllT.one (by rw [hbb, hy])))
          exact ⟨fun h => (by cases h), fun _ => .done (ts := hint hSd) (ρ := []) (rdS fops F G n k) ho⟩
def PS (n n1 k N : Int) (row : Int → List SC) : Prop := n1 = n ∧ k = 0 ∧ N = n ∧ 0 ≤ n ∧ n ≤ 1048576 ∧ Shape ts row
noncomputable def FS (O : FOps) : List LD → Option (XO × List Bool)
  | [.i n, .i n1, .i k, .i N, .r row] => some ([(.s (!eqFrom (qC O n (datF row) (datG row)) 0 n.toNat), .ret, skR, []), (.t, .exit 0, skE, [])], [pB (PS n n1 k N row)])
  | _ => none
noncomputable def LSv (O : FOps) : List Ly → Top → Option Outs := orIter (cxV O) NS (bodyOf Try.f51 5) (loopL NS 2 60 skS [] (FS O))
set_option maxRecDepth 100000 in
theorem okS : CodeOK Try.prog NS (.loop (bodyOf Try.f51 5)) (LSv fops) := by
  refine orIter_ok (l := LV fops) okLV mixed 8 (loopL_ok (cx := cxV fops) (lp := fun _ => none) (fun ts => body_ok (l := LV fops) okLV mixed 8 _ ts) fun p r hr hob => ?_)
  unfold FS at hr
  split at hr <;> cases hr
  rename_i n n1 k N row
  obtain ⟨f0, e1, e2, h0, hm, hs⟩ := pB_iff.1 hob.head
  obtain ⟨h1, h2⟩ := loS (datF row) (datG row) n hm n.toNat 0 (Int.le_refl _) (by omega)
  have hs1 : Row (datF row) (datG row) = row := hs.symm
  rw [hs1] at h1 h2
  rw [e1, e2, f0]
  cases hq : eqFrom (qC fops n (datF row) (datG row)) 0 n.toNat with
  | true => exact ⟨.exit 0, skE, [], by simp [pickX, SB.val], h1 hq⟩
  | false => exact ⟨.ret, skR, [], by simp [pickX, SB.val], h2 hq⟩
set_option maxRecDepth 100000 in
theorem cS0 : CallOK Try.prog 51 (inl (cxV fops) Try.f51 ⟨fun _ => none, lpOf [(5, LSv fops)]⟩) := by
  have hb : Try.f51.body.isSome = true := by kernel_rfl
  obtain ⟨c, hc⟩ := Option.isSome_iff_exists.1 hb
  have h1 : (match Try.f51.body with | some c => onceB (loopsIn c) && (match loopAt 5 (loopsIn c) with | some _ => true | none => false) | none => false) = true := by kernel_rfl
  rw [hc] at h1
  simp only [Bool.and_eq_true] at h1
  exact inlL_of (l := LV fops) (ls := [(5, LSv fops)]) okLV mixed 8 Try.func51 (by kernel_rfl) (fun _ => none) hc h1.1 ⟨⟨_, bodyOf_at hc h1.2, okS⟩, trivial⟩
/-! ### validity, told by hand -/
noncomputable def rgI (n : Int) : Bool := bif decide (n < 1) then true else decide (6 < n)
noncomputable def rgS (n : Int) : Bool := !(bif decide (1 ≤ n) then decide (n ≤ 6) else false)
theorem rg_eq (n : Int) : rgS n = rgI n := by
  unfold rgS rgI
  by_cases h : n < 1
  · rw [decide_eq_true h, decide_eq_false (by omega : ¬ 1 ≤ n)]; rfl
  · rw [decide_eq_false h, decide_eq_true (by omega : 1 ≤ n)]
    by_cases h2 : 6 < n
    · rw [decide_eq_true h2, decide_eq_false (by omega : ¬ n ≤ 6)]; rfl
    · rw [decide_eq_false h2, decide_eq_true (by omega : n ≤ 6)]; rfl
/-- Whether a chimney is valid; 'g': it has too few or too many flues. -/
noncomputable def vC' (O : FOps) (g : Bool) (n : Int) (row : Int → List SC) : Bool := bif g then false else bif !eqFrom (qC O n (datF row) (datG row)) 0 n.toNat then false else true
noncomputable def vC (O : FOps) (n : Int) (row : Int → List SC) : Bool := vC' O (rgI n) n row
set_option maxRecDepth 100000 in
theorem I_run (O : FOps) (f w o : Bool) (n N : Int) (row : Int → List SC) : roS (inl (cxV O) Try.f84 ⟨fun _ => none, lpOf [(4, LIv O)]⟩) 2 [.c (.sl 1 0 5 (.s n) f)] [(1, ⟨w, o, .rows 5 N row⟩)] =
    some ⟨.c (.bool (.s (vC' O (rgI n) n row))), [], 60, gdB (rgI n) [flatR row, pB (PI n n n 0 N row)]⟩ := by kernel_rfl
set_option maxRecDepth 100000 in
theorem S_run (O : FOps) (f w o : Bool) (n N : Int) (row : Int → List SC) : roS (inl (cxV O) Try.f51 ⟨fun _ => none, lpOf [(5, LSv O)]⟩) 2 [.c (.sl 1 0 5 (.s n) f)] [(1, ⟨w, o, .rows 5 N row⟩)] =
    some ⟨.c (.bool (.s (vC' O (rgS n) n row))), [], 60, gdB (rgS n) [flatR row, pB (PS n n 0 N row)]⟩ := by kernel_rfl
noncomputable def vH (O : FOps) : CS := fun base args rd => match args with
  | [.c (.sl i o es (.s n) _)] => match rd with
    | [(j, ⟨_, _, .rows st N row⟩)] => match Nat.beq base 2 && (Nat.beq i 1 && (Nat.beq o 0 && (Nat.beq es 5 && (Nat.beq j 1 && Nat.beq st 5)))) with
      | true => some ⟨.c (.bool (.s (vC O n row))), [], 60, [okN n N row]⟩
      | false => none
    | _ => none
  | _ => none
noncomputable def vIC (O : FOps) : CS := orS (canS (vH O)) (inl (cxV O) Try.f84 noH)
noncomputable def vSC (O : FOps) : CS := orS (canS (vH O)) (inl (cxV O) Try.f51 noH)
set_option maxRecDepth 100000 in
theorem cVI : CallOK Try.prog 84 (vIC fops) :=
  (CallOK.hand (H := vH fops) cI0.ro fun b args rd e h hob => by
    unfold vH at h
    split at h <;> try (cases h; done)
    rename_i i o es n f
    split at h <;> try (cases h; done)
    rename_i j w p st N row
    split at h <;> cases h
    rename_i hc
    simp only [Bool.and_eq_true, beqN] at hc
    obtain ⟨rfl, rfl, rfl, rfl, rfl, rfl⟩ := hc
    obtain ⟨rfl, h0, hm, hs⟩ := pB_iff.1 hob.head
    exact ⟨_, I_run fops f w p N N row, gdB_ok fun _ => AllT.cons (shape_flat hs) (AllT.one (pB_iff.2 ⟨rfl, rfl, rfl, rfl, h0, hm, hs⟩))⟩).can.or
    (inlN_of (l := LV fops) okLV mixed 8 Try.func84 (by kernel_rfl) (fun _ => none))
set_option maxRecDepth 100000 in
theorem cVS : CallOK Try.prog 51 (vSC fops) :=
  (CallOK.hand (H := vH fops) cS0.ro fun b args rd e h hob => by
    unfold vH at h
    split at h <;> try (cases h; done)
    rename_i i o es n f
    split at h <;> try (cases h; done)
    rename_i j w p st N row
    split at h <;> cases h
    rename_i hc
    simp only [Bool.and_eq_true, beqN] at hc
    obtain ⟨rfl, rfl, rfl, rfl, rfl, rfl⟩ := hc
    obtain ⟨rfl, h0, hm, hs⟩ := pB_iff.1 hob.head
    unfold vC
    rw [← rg_eq]
    exact ⟨_, S_run fops f w p N N row, gdB_ok fun _ => AllT.cons (shape_flat hs) (AllT.one (pB_iff.2 ⟨rfl, rfl, rfl, h0, hm, hs⟩))⟩).can.or
    (inlN_of (l := LV fops) okLV mixed 8 Try.func51 (by kernel_rfl) (fun _ => none))
end
end Go.Proofs.Ytaoeigofmfpamaa.Chy
end

/- Whether two chimneys are the same, with any number of flues. Nothing is assumed. -/
section
namespace Go.Proofs.Ytaoeigofmfpamaa.Chs
open Go SlFlue Chy
noncomputable section
noncomputable def LN : List (Nat × CS) := [(50, sameS), (78, sameS)]
set_option maxRecDepth 100000 in
theorem okLN : AllOK Try.prog LN := ⟨cSameI, cSameL, trivial⟩
noncomputable def cxM (O : FOps) : Cx := ⟨Try.prog, O, orcN Try.prog O LN 8⟩
noncomputable def sg : List (Nat × KS) := [(1, ⟨false, false, .rows 5⟩), (2, ⟨false, false, .rows 5⟩)]
noncomputable def skR : Sk := ⟨[(4, .c (.boolc false))], [], 3⟩
noncomputable def skE : Sk := ⟨[], [], 3⟩
noncomputable def sm (F H : Nat → Int → Nat) (c : Nat) (k : Int) : Bool := Nat.beq (F c k) (H c k)
noncomputable def sa (F H : Nat → Int → Nat) (k : Int) : Bool := bif !sm F H 0 k then false else bif !sm F H 1 k then false else bif !sm F H 2 k then false else bif !sm F H 3 k then false else true
noncomputable def tI (F : Nat → Int → Nat) (G : Nat → Int → Int) (H : Nat → Int → Nat) (I : Nat → Int → Int) (k : Int) : Bool := bif !decide (G 4 k = I 4 k) then true else !sa F H k
noncomputable def tS (F : Nat → Int → Nat) (G : Nat → Int → Int) (H : Nat → Int → Nat) (I : Nat → Int → Int) (k : Int) : Bool :=
  bif !sm F H 0 k then true else bif !sm F H 1 k then true else bif !sm F H 2 k then true else bif !sm F H 3 k then true else !decide (G 4 k = I 4 k)
theorem t_eq (F : Nat → Int → Nat) (G : Nat → Int → Int) (H : Nat → Int → Nat) (I : Nat → Int → Int) (k : Int) : tS F G H I k = tI F G H I k := by
  unfold tS tI sa
  cases sm F H 0 k <;> cases sm F H 1 k <;> cases sm F H 2 k <;> cases sm F H 3 k <;> cases decide (G 4 k = I 4 k) <;> rfl
noncomputable def qM (F : Nat → Int → Nat) (G : Nat → Int → Int) (H : Nat → Int → Nat) (I : Nat → Int → Int) (k : Int) : Bool := !tI F G H I k
noncomputable def b4 (n m k : Int) : List Bool := [bnd n k, bnd n k, bnd m k, bnd m k]
noncomputable def hd (n m k : Int) : List Bool := [decide (k < n)] ++ b4 n m k
noncomputable def mdI (_ _ : Nat → Int → Nat) (_ _ _ : Int) : List Bool := []
noncomputable def mdS (F H : Nat → Int → Nat) (n m k : Int) : List Bool := gdB (!sm F H 0 k) (b4 n m k) ++ gdB (!sm F H 0 k) (gdB (!sm F H 1 k) (b4 n m k)) ++ gdB (!sm F H 0 k) (gdB (!sm F H 1 k) (gdB (!sm F H 2 k) (b4 n m k))) ++ gdB (!sm F H 0 k) (gdB (!sm F H 1 k) (gdB (!sm F H 2 k) (gdB (!sm F H 3 k) (b4 n m k))))
noncomputable def fl2 (F : Nat → Int → Nat) (G : Nat → Int → Int) (H : Nat → Int → Nat) (I : Nat → Int → Int) : List Bool := [flatR (Row H I), flatR (Row F G)]
theorem b4_ok {n k : Int} (h0 : 0 ≤ k) (h1 : k < n) : AllT (b4 n n k) := by
  have b := bnd_ok h0 h1
  exact AllT.cons b (AllT.cons b (AllT.cons b (AllT.one b)))
theorem hd_ok {n k : Int} (h0 : 0 ≤ k) (h1 : k < n) : AllT (hd n n k) := AllT.app (AllT.one (by simpa using h1)) (b4_ok h0 h1)
theorem mdS_ok (F H : Nat → Int → Nat) {n k : Int} (h0 : 0 ≤ k) (h1 : k < n) : AllT (mdS F H n n k) := by
  have b := b4_ok h0 h1
  exact AllT.app (AllT.app (AllT.app (gdB_ok fun _ => b) (gdB_ok fun _ => gdB_ok fun _ => b)) (gdB_ok fun _ => gdB_ok fun _ => gdB_ok fun _ => b)) (gdB_ok fun _ => gdB_ok fun _ => gdB_ok fun _ => gdB_ok fun _ => b)
def PreM (n m k M N : Int) (row row' : Int → List SC) : Prop := m = n ∧ k = 0 ∧ M = n ∧ N = n ∧ 0 ≤ n ∧ n ≤ 1048576 ∧ Shape ts row ∧ Shape ts row'
/-- Whether two chimneys are the same. -/
noncomputable def sR (n m : Int) (row row' : Int → List SC) : Bool := bif !decide (n = m) then false else bif !eqFrom (qM (datF row) (datG row) (datF row') (datG row')) 0 n.toNat then false else true
noncomputable def smH : CS := fun base args rd => match args with
  | [.c (.sl i o es (.s n) _), .c (.sl i' o' es' (.s m) _)] => match rd with
    | [(j', ⟨_, _, .rows st' M row'⟩), (j, ⟨_, _, .rows st N row⟩)] => match Nat.beq base 3 && (Nat.beq i 2 && (Nat.beq o 0 && (Nat.beq es 5 && (Nat.beq j 2 && (Nat.beq st 5 && (Nat.beq i' 1 && (Nat.beq o' 0 && (Nat.beq es' 5 && (Nat.beq j' 1 && Nat.beq st' 5))))))))) with
      | true => some ⟨.c (.bool (.s (sR n m row row'))), [], 60, [okE' n N row m M row']⟩
      | false => none
    | _ => none
  | _ => none
/-! ### impl.SameChimney -/
noncomputable def skI : Sk := ⟨[(0, .c (.sl 2 0 5 false)), (1, .c (.sl 1 0 5 false)), (13, .c (.sl 2 0 5 false)), (14, .c (.int .i64)), (15, .c (.int .i64))], sg, 3⟩
noncomputable def NI : Nat := Try.f17.ntmps
noncomputable def goI (O : FOps) (h : List (Nat × Bool)) (s : Sk) (F : Nat → Int → Nat) (G : Nat → Int → Int) (H : Nat → Int → Nat) (I : Nat → Int → Int) (n m k : Int) : Option (Option XK × List LD × List Bool) :=
  goL (cxM O) NI ⟨hint h, fun _ => none⟩ (bodyOf Try.f17 4) 3 60 skI [] s [.i n, .i m, .i n, .i n, .i k, .i m, .r (Row H I), .i n, .r (Row F G)]
noncomputable def hIa : List (Nat × Bool) := [(16, true), (50, false)]
noncomputable def hIb : List (Nat × Bool) := [(16, true), (50, true)]
noncomputable def hIe : List (Nat × Bool) := [(16, false)]
set_option maxRecDepth 100000 in
theorem raI (O : FOps) (F : Nat → Int → Nat) (G : Nat → Int → Int) (H : Nat → Int → Nat) (I : Nat → Int → Int) (n m k : Int) : goI O hIa skI F G H I n m k = some (none, [.i n, .i m, .i n, .i n, .i (IntKind.i64.wrap (k + 1)), .i m, .r (Row H I), .i n, .r (Row F G)], hd n m k ++ mdI F H n m k ++ ([!tI F G H I k] ++ fl2 F G H I)) := by kernel_rfl
set_option maxRecDepth 100000 in
theorem rbI (O : FOps) (F : Nat → Int → Nat) (G : Nat → Int → Int) (H : Nat → Int → Nat) (I : Nat → Int → Int) (n m k : Int) : goI O hIb skR F G H I n m k = some (some .ret, [], hd n m k ++ mdI F H n m k ++ [tI F G H I k]) := by kernel_rfl
set_option maxRecDepth 100000 in
theorem reI (O : FOps) (F : Nat → Int → Nat) (G : Nat → Int → Int) (H : Nat → Int → Nat) (I : Nat → Int → Int) (n m k : Int) : goI O hIe skE F G H I n m k = some (some (.exit 0), [], [!decide (k < n)]) := by kernel_rfl
theorem loI (F : Nat → Int → Nat) (G : Nat → Int → Int) (H : Nat → Int → Nat) (I : Nat → Int → Int) (n : Int) (hn : n ≤ 1048576) : ∀ (m : Nat) (k : Int), 0 ≤ k → k + m = n →
    (eqFrom (qM F G H I) k m = true → Loops (cxM fops) NI (fun _ => none) (bodyOf Try.f17 4) 3 60 skI [.i n, .i n, .i n, .i n, .i k, .i n, .r (Row H I), .i n, .r (Row F G)] (.exit 0) skE []) ∧
    (eqFrom (qM F G H I) k m = false → Loops (cxM fops) NI (fun _ => none) (bodyOf Try.f17 4) 3 60 skI [.i n, .i n, .i n, .i n, .i k, .i n, .r (Row H I), .i n, .r (Row F G)] .ret skR []) := by
  have fl : AllT (fl2 F G H I) := AllT.cons (rowK_flat _ _ _) (AllT.cons (rowK_flat _ _ _) AllT.nil)
  intro m
  induction m with
  | zero =>
    intro k hk hkn
    have e : k = n := by omega
    subst e
    refine ⟨fun _ => .done (ts := hint hIe) (ρ := []) (reI fops F G H I k k k) (AllT.one (by simp)), fun h => by cases h⟩
  | succ m ih =>
    intro k hk hkn
    have hlt : k < n := by omega
    obtain ⟨i1, i2⟩ := ih (k + 1) (by omega) (by omega)
    have hE : eqFrom (qM F G H I) k (m + 1) = bif qM F G H I k then eqFrom (qM F G H I) (k + 1) m else false := rfl
    have hh := hd_ok hk hlt
    have hm : AllT (mdI F H n n k) := AllT.nil
    have ht : tI F G H I k = !qM F G H I k := by unfold qM; simp
    rw [hE]
    cases hq : qM F G H I k with
    | true =>
      have h1 := raI fops F G H I n n k
      rw [wrap_succ hk (by omega)] at h1
      have ho : AllT (hd n n k ++ mdI F H n n k ++ ([!tI F G H I k] ++ fl2 F G H I)) := AllT.app (AllT.app hh hm) (AllT.app (AllT.one (by rw [ht, hq]; rfl)) fl)
      exact ⟨fun h => .step (ts := hint hIa) (ρ := []) h1 ho (i1 h), fun h => .step (ts := hint hIa) (ρ := []) h1 ho (i2 h)⟩
    | false =>
      refine ⟨fun h => (by cases h), fun _ => .done (ts := hint hIb) (ρ := []) (rbI fops F G H I n n k) (AllT.app (AllT.app hh hm) (AllT.one (by rw [ht, hq]; rfl)))⟩
noncomputable def FI : List LD → Option (XO × List Bool)
  | [.i n, .i m, .i n1, .i n2, .i k, .i M, .r row', .i N, .r row] => some ([(.s (!eqFrom (qM (datF row) (datG row) (datF row') (datG row')) 0 n.toNat), .ret, skR, []), (.t, .exit 0, skE, [])], [pB (n1 = n ∧ n2 = n ∧ PreM n m k M N row row')])
  | _ => none
noncomputable def LIm (O : FOps) : List Ly → Top → Option Outs := orIter (cxM O) NI (bodyOf Try.f17 4) (loopL NI 3 60 skI [] FI)
set_option maxRecDepth 100000 in
theorem okI : CodeOK Try.prog NI (.loop (bodyOf Try.f17 4)) (LIm fops) := by
  refine orIter_ok (l := LN) okLN mixed 8 (loopL_ok (cx := cxM fops) (lp := fun _ => none) (fun ts => body_ok (l := LN) okLN mixed 8 _ ts) fun p r hr hob => ?_)
  unfold FI at hr
  split at hr <;> cases hr
  rename_i n m n1 n2 k M row' N row
  obtain ⟨g1, g2, e1, e2, e3, e4, h0, hm, hs, hs'⟩ := pB_iff.1 hob.head
  obtain ⟨h1, h2⟩ := loI (datF row) (datG row) (datF row') (datG row') n hm n.toNat 0 (Int.le_refl _) (by omega)
  have hs1 : Row (datF row) (datG row) = row := hs.symm
  have hs2 : Row (datF row') (datG row') = row' := hs'.symm
  rw [hs1, hs2] at h1 h2
  rw [g1, g2, e1, e2, e3, e4]
  cases hq : eqFrom (qM (datF row) (datG row) (datF row') (datG row')) 0 n.toNat with
  | true => exact ⟨.exit 0, skE, [], by simp [pickX, SB.val], h1 hq⟩
  | false => exact ⟨.ret, skR, [], by simp [pickX, SB.val], h2 hq⟩
set_option maxRecDepth 100000 in
theorem cI0 : CallOK Try.prog 17 (inl (cxM fops) Try.f17 ⟨fun _ => none, lpOf [(4, LIm fops)]⟩) := by
  have hb : Try.f17.body.isSome = true := by kernel_rfl
  obtain ⟨c, hc⟩ := Option.isSome_iff_exists.1 hb
  have h1 : (match Try.f17.body with | some c => onceB (loopsIn c) && (match loopAt 4 (loopsIn c) with | some _ => true | none => false) | none => false) = true := by kernel_rfl
  rw [hc] at h1
  simp only [Bool.and_eq_true] at h1
  exact inlL_of (l := LN) (ls := [(4, LIm fops)]) okLN mixed 8 Try.func17 (by kernel_rfl) (fun _ => none) hc h1.1 ⟨⟨_, bodyOf_at hc h1.2, okI⟩, trivial⟩
set_option maxRecDepth 100000 in
theorem I_run (O : FOps) (f w o f' w' o' : Bool) (n N m M : Int) (row row' : Int → List SC) : roS (inl (cxM O) Try.f17 ⟨fun _ => none, lpOf [(4, LIm O)]⟩) 3 [.c (.sl 2 0 5 (.s n) f), .c (.sl 1 0 5 (.s m) f')] [(1, ⟨w', o', .rows 5 M row'⟩), (2, ⟨w, o, .rows 5 N row⟩)] =
    some ⟨.c (.bool (.s (sR n m row row'))), [], 60, gdB (!decide (n = m)) [flatR row', flatR row, pB (n = n ∧ n = n ∧ PreM n m 0 M N row row')]⟩ := by kernel_rfl
noncomputable def smI (O : FOps) : CS := orS (canS smH) (inl (cxM O) Try.f17 noH)
set_option maxRecDepth 100000 in
theorem cSmI : CallOK Try.prog 17 (smI fops) :=
  (CallOK.hand (H := smH) cI0.ro fun b args rd e h hob => by
    unfold smH at h
    split at h <;> try (cases h; done)
    rename_i i o es n f i' o' es' m f'
    split at h <;> try (cases h; done)
    rename_i j' w' p' st' M row' j w p st N row
    split at h <;> cases h
    rename_i hc
    simp only [Bool.and_eq_true, beqN] at hc
    obtain ⟨rfl, rfl, rfl, rfl, rfl, rfl, rfl, rfl, rfl, rfl, rfl⟩ := hc
    refine ⟨_, I_run fops f w p f' w' p' n N m M row row', gdB_ok fun hg => ?_⟩
    have hnm : decide (n = m) = true := by simpa using hg
    have ho := hob.head
    unfold okE' at ho
    rw [hnm] at ho
    obtain ⟨e1, e2, h0, hm, hs, hs'⟩ := pB_iff.1 (show pB _ = true from ho)
    exact AllT.cons (shape_flat hs') (AllT.cons (shape_flat hs) (AllT.one (pB_iff.2 ⟨rfl, rfl, (of_decide_eq_true hnm).symm, rfl, e2, e1, h0, hm, hs, hs'⟩)))).can.or
    (inlN_of (l := LN) okLN mixed 8 Try.func17 (by kernel_rfl) (fun _ => none))
/-! ### spec.l03Same -/
noncomputable def skS : Sk := ⟨[(0, .c (.sl 2 0 5 false)), (1, .c (.sl 1 0 5 false)), (5, .c (.int .i64))], sg, 3⟩
noncomputable def NS : Nat := Try.f45.ntmps
noncomputable def goS (O : FOps) (h : List (Nat × Bool)) (s : Sk) (F : Nat → Int → Nat) (G : Nat → Int → Int) (H : Nat → Int → Nat) (I : Nat → Int → Int) (n m k : Int) : Option (Option XK × List LD × List Bool) :=
  goL (cxM O) NS ⟨hint h, fun _ => none⟩ (bodyOf Try.f45 4) 3 60 skS [] s [.i n, .i m, .i k, .i m, .r (Row H I), .i n, .r (Row F G)]
noncomputable def hSa : List (Nat × Bool) := [(14, true), (83, false)]
noncomputable def hSb : List (Nat × Bool) := [(14, true), (83, true)]
noncomputable def hSe : List (Nat × Bool) := [(14, false)]
set_option maxRecDepth 100000 in
theorem raS (O : FOps) (F : Nat → Int → Nat) (G : Nat → Int → Int) (H : Nat → Int → Nat) (I : Nat → Int → Int) (n m k : Int) : goS O hSa skS F G H I n m k = some (none, [.i n, .i m, .i (IntKind.i64.wrap (k + 1)), .i m, .r (Row H I), .i n, .r (Row F G)], hd n m k ++ mdS F H n m k ++ ([!tS F G H I k] ++ fl2 F G H I)) := by kernel_rfl
set_option maxRecDepth 100000 in
theorem rbS (O : FOps) (F : Nat → Int → Nat) (G : Nat → Int → Int) (H : Nat → Int → Nat) (I : Nat → Int → Int) (n m k : Int) : goS O hSb skR F G H I n m k = some (some .ret, [], hd n m k ++ mdS F H n m k ++ [tS F G H I k]) := by kernel_rfl
set_option maxRecDepth 100000 in
theorem reS (O : FOps) (F : Nat → Int → Nat) (G : Nat → Int → Int) (H : Nat → Int → Nat) (I : Nat → Int → Int) (n m k : Int) : goS O hSe skE F G H I n m k = some (some (.exit 0), [], [!decide (k < n)]) := by kernel_rfl
theorem loS (F : Nat → Int → Nat) (G : Nat → Int → Int) (H : Nat → Int → Nat) (I : Nat → Int → Int) (n : Int) (hn : n ≤ 1048576) : ∀ (m : Nat) (k : Int), 0 ≤ k → k + m = n →
    (eqFrom (qM F G H I) k m = true → Loops (cxM fops) NS (fun _ => none) (bodyOf Try.f45 4) 3 60 skS [.i n, .i n, .i k, .i n, .r (Row H I), .i n, .r (Row F G)] (.exit 0) skE []) ∧
    (eqFrom (qM F G H I) k m = false → Loops (cxM fops) NS (fun _ => none) (bodyOf Try.f45 4) 3 60 skS [.i n, .i n, .i k, .i n, .r (Row H I), .i n, .r (Row F G)] .ret skR []) := by
  have fl : AllT (fl2 F G H I) := AllT.cons (rowK_flat _ _ _) (AllT.cons (rowK_flat _ _ _) AllT.nil)
  intro m
  induction m with
  | zero =>
    intro k hk hkn
    have e : k = n := by omega
    subst e
    refine ⟨fun _ => .done (ts := hint hSe) (ρ := []) (reS fops F G H I k k k) (AllT.one (by simp)), fun h => by cases h⟩
  | succ m ih =>
    intro k hk hkn
    have hlt : k < n := by omega
    obtain ⟨i1, i2⟩ := ih (k + 1) (by omega) (by omega)
    have hE : eqFrom (qM F G H I) k (m + 1) = bif qM F G H I k then eqFrom (qM F G H I) (k + 1) m else false := rfl
    have hh := hd_ok hk hlt
    have hm : AllT (mdS F H n n k) := mdS_ok F H hk hlt
    have ht : tS F G H I k = !qM F G H I k := by unfold qM; rw [t_eq]; simp
    rw [hE]
    cases hq : qM F G H I k with
    | true =>
      have h1 := raS fops F G H I n n k
      rw [wrap_succ hk (by omega)] at h1
      have ho : AllT (hd n n k ++ mdS F H n n k ++ ([!tS F G H I k] ++ fl2 F G H I)) := AllT.app (AllT.app hh hm) (AllT.app (AllT.one (by rw [ht, hq]; rfl)) fl)
      exact ⟨fun h => .step (ts := hint hSa) (ρ := []) h1 ho (i1 h), fun h => .step (ts := hint hSa) (ρ := []) h1 ho (i2 h)⟩
    | false =>
      refine ⟨fun h => (by cases h), fun _ => .done (ts := hint hSb) (ρ := []) (rbS fops F G H I n n k) (AllT.app (AllT.app hh hm) (AllT.one (by rw [ht, hq]; rfl)))⟩
noncomputable def FS : List LD → Option (XO × List Bool)
  | [.i n, .i m, .i k, .i M, .r row', .i N, .r row] => some ([(.s (!eqFrom (qM (datF row) (datG row) (datF row') (datG row')) 0 n.toNat), .ret, skR, []), (.t, .exit 0, skE, [])], [pB (PreM n m k M N row row')])
  | _ => none
noncomputable def LSm (O : FOps) : List Ly → Top → Option Outs := orIter (cxM O) NS (bodyOf Try.f45 4) (loopL NS 3 60 skS [] FS)
set_option maxRecDepth 100000 in
theorem okS : CodeOK Try.prog NS (.loop (bodyOf Try.f45 4)) (LSm fops) := by
  refine orIter_ok (l := LN) okLN mixed 8 (loopL_ok (cx := cxM fops) (lp := fun _ => none) (fun ts => body_ok (l := LN) okLN mixed 8 _ ts) fun p r hr hob => ?_)
  unfold FS at hr
  split at hr <;> cases hr
  rename_i n m k M row' N row
  obtain ⟨e1, e2, e3, e4, h0, hm, hs, hs'⟩ := pB_iff.1 hob.head
  obtain ⟨h1, h2⟩ := loS (datF row) (datG row) (datF row') (datG row') n hm n.toNat 0 (Int.le_refl _) (by omega)
  have hs1 : Row (datF row) (datG row) = row := hs.symm
  have hs2 : Row (datF row') (datG row') = row' := hs'.symm
  rw [hs1, hs2] at h1 h2
  rw [e1, e2, e3, e4]
  cases hq : eqFrom (qM (datF row) (datG row) (datF row') (datG row')) 0 n.toNat with
  | true => exact ⟨.exit 0, skE, [], by simp [pickX, SB.val], h1 hq⟩
  | false => exact ⟨.ret, skR, [], by simp [pickX, SB.val], h2 hq⟩
set_option maxRecDepth 100000 in
theorem cS0 : CallOK Try.prog 45 (inl (cxM fops) Try.f45 ⟨fun _ => none, lpOf [(4, LSm fops)]⟩) := by
  have hb : Try.f45.body.isSome = true := by kernel_rfl
  obtain ⟨c, hc⟩ := Option.isSome_iff_exists.1 hb
  have h1 : (match Try.f45.body with | some c => onceB (loopsIn c) && (match loopAt 4 (loopsIn c) with | some _ => true | none => false) | none => false) = true := by kernel_rfl
  rw [hc] at h1
  simp only [Bool.and_eq_true] at h1
  exact inlL_of (l := LN) (ls := [(4, LSm fops)]) okLN mixed 8 Try.func45 (by kernel_rfl) (fun _ => none) hc h1.1 ⟨⟨_, bodyOf_at hc h1.2, okS⟩, trivial⟩
set_option maxRecDepth 100000 in
theorem S_run (O : FOps) (f w o f' w' o' : Bool) (n N m M : Int) (row row' : Int → List SC) : roS (inl (cxM O) Try.f45 ⟨fun _ => none, lpOf [(4, LSm O)]⟩) 3 [.c (.sl 2 0 5 (.s n) f), .c (.sl 1 0 5 (.s m) f')] [(1, ⟨w', o', .rows 5 M row'⟩), (2, ⟨w, o, .rows 5 N row⟩)] =
    some ⟨.c (.bool (.s (sR n m row row'))), [], 60, gdB (!decide (n = m)) [flatR row', flatR row, pB (PreM n m 0 M N row row')]⟩ := by kernel_rfl
noncomputable def smS (O : FOps) : CS := orS (canS smH) (inl (cxM O) Try.f45 noH)
set_option maxRecDepth 100000 in
theorem cSmS : CallOK Try.prog 45 (smS fops) :=
  (CallOK.hand (H := smH) cS0.ro fun b args rd e h hob => by
    unfold smH at h
    split at h <;> try (cases h; done)
    rename_i i o es n f i' o' es' m f'
    split at h <;> try (cases h; done)
    rename_i j' w' p' st' M row' j w p st N row
    split at h <;> cases h
    rename_i hc
    simp only [Bool.and_eq_true, beqN] at hc
    obtain ⟨rfl, rfl, rfl, rfl, rfl, rfl, rfl, rfl, rfl, rfl, rfl⟩ := hc
    refine ⟨_, S_run fops f w p f' w' p' n N m M row row', gdB_ok fun hg => ?_⟩
    have hnm : decide (n = m) = true := by simpa using hg
    have ho := hob.head
    unfold okE' at ho
    rw [hnm] at ho
    obtain ⟨e1, e2, h0, hm, hs, hs'⟩ := pB_iff.1 (show pB _ = true from ho)
    exact AllT.cons (shape_flat hs') (AllT.cons (shape_flat hs) (AllT.one (pB_iff.2 ⟨(of_decide_eq_true hnm).symm, rfl, e2, e1, h0, hm, hs, hs'⟩)))).can.or
    (inlN_of (l := LN) okLN mixed 8 Try.func45 (by kernel_rfl) (fun _ => none))
end
end Go.Proofs.Ytaoeigofmfpamaa.Chs
end

/- The laws ValidChimney, SameChimney, SetFlue: what their texts compute, with any number of flues. Nothing is assumed. -/
section
namespace Go.Proofs.Ytaoeigofmfpamaa.Chl
open Go SlFlue Chy Chs
noncomputable section
noncomputable def chA (i : Nat) (n : Int) : SV := .c (.sl i 0 5 (.s n) false)
noncomputable def ch0 (i : Nat) : SV := .c (.sl i 0 5 (.c 0) false)
noncomputable def szf (l n : Int) : Int := bif decide (IntKind.i64.wrap (l - n) < 0) then -1 else IntKind.i64.wrap (l - n)
noncomputable def lf (n : Int) : Int := szf 1048576 n
theorem szf_small {l n : Int} (h0 : 0 ≤ n) (h1 : n ≤ l) (h2 : l ≤ 1048576) : decide (szf l n < 0) = false := by
  unfold szf
  rw [wrap_in (by omega) (by omega)]
  have e : decide (l - n < 0) = false := by simp; omega
  rw [e]
  simp [e]
theorem szf_big {l n : Int} (h : 0 ≤ l) (h0 : l < n) (h1 : n ≤ 9223372036854775807) : decide (szf l n < 0) = true := by
  unfold szf
  rw [wrap_in (by omega) (by omega)]
  have e : decide (l - n < 0) = true := by simp; omega
  rw [e]
  simp
theorem lf_val {n : Int} (h0 : 0 ≤ n) (h1 : n ≤ 1048576) : lf n = 1048576 - n := by
  unfold lf szf
  rw [wrap_in (by omega) (by omega)]
  have e : decide (1048576 - n < 0) = false := by simp; omega
  rw [e]
  simp
theorem lf_small {n : Int} (h0 : 0 ≤ n) (h1 : n ≤ 1048576) : decide (lf n < 0) = false := szf_small h0 h1 (Int.le_refl _)
theorem lf_big {n : Int} (h0 : 1048576 < n) (h1 : n ≤ 9223372036854775807) : decide (lf n < 0) = true := szf_big (by decide) h0 h1
noncomputable def R1 (F : Nat → Int → Nat) (G : Nat → Int → Int) (n : Int) : Int → List SC := cpR n (Row F G)
noncomputable def oC (F : Nat → Int → Nat) (G : Nat → Int → Int) (n : Int) : List Bool := [flatR (Row F G), flatR (R1 F G n), okN n n (Row F G)]
noncomputable def oA (n : Int) : List Bool := [decide (0 ≤ n ∧ n ≤ n ∧ n ≤ 1000000)]
noncomputable def oE (n : Int) (row row' : Int → List SC) : List Bool := [flatR row', flatR row, okE' n n row n n row']
noncomputable def oM (O : FOps) (n : Int) (row : Int → List SC) : List Bool := [flatR row, flatR (mkR O 1 n row), okM' n 1 n row]
noncomputable def oH (O : FOps) (n : Int) (row : Int → List SC) : List Bool := [flatR (mkR O 1 n row), okH' n 1 n (mkR O 1 n row)]
noncomputable def ng (n : Int) : Bool := decide ((1 : Int) + 5 * n < 0)
noncomputable def qv (n : Int) : Int := 1 + 5 * n
/-- What is asked when it is held as it was marked. -/
noncomputable def oQ (n : Int) : List Bool := [!decide (qv n < 0), !!decide (qv n = 1 + 5 * n)]
theorem ng_false {n : Int} (h : 0 ≤ n) : ng n = false := by unfold ng; simp; omega
theorem oQ_ok {n : Int} (h : 0 ≤ n) : AllT (oQ n) := by
  unfold oQ qv
  exact AllT.cons (by simp; omega) (AllT.cons (by simp) AllT.nil)
theorem r1_shape (F : Nat → Int → Nat) (G : Nat → Int → Int) (n : Int) : Shape ts (R1 F G n) := shape_row _ _
theorem oC_ok (F : Nat → Int → Nat) (G : Nat → Int → Int) {n : Int} (h0 : 0 ≤ n) (h1 : n ≤ 1048576) : AllT (oC F G n) :=
  AllT.cons (rowK_flat _ _ _) (AllT.cons (rowK_flat _ _ _) (AllT.cons (pB_iff.2 ⟨rfl, h0, h1, shape_row F G⟩) AllT.nil))
theorem oA_ok {n : Int} (h0 : 0 ≤ n) (h1 : n ≤ 6) : AllT (oA n) := AllT.cons (by simp; omega) AllT.nil
theorem oE_ok {row row' : Int → List SC} (hs : Shape ts row) (hs' : Shape ts row') {n : Int} (h0 : 0 ≤ n) (h1 : n ≤ 1048576) : AllT (oE n row row') :=
  AllT.cons (shape_flat hs') (AllT.cons (shape_flat hs) (AllT.cons (by
    unfold okE'
    have : pB (n = n ∧ n = n ∧ 0 ≤ n ∧ n ≤ 1048576 ∧ Shape ts row ∧ Shape ts row') = true := pB_iff.2 ⟨rfl, rfl, h0, h1, hs, hs'⟩
    rw [this, Bool.or_true]) AllT.nil))
theorem mk_shape (u n : Int) (row : Int → List SC) : Shape ts (mkR fops u n row) := shape_row _ _
theorem oM_ok {row : Int → List SC} (hs : Shape ts row) {n : Int} (h0 : 0 ≤ n) (h1 : n ≤ 1048576) : AllT (oM fops n row) :=
  AllT.cons (shape_flat hs) (AllT.cons (shape_flat (mk_shape _ _ _)) (AllT.cons (pB_iff.2 ⟨rfl, h0, h1, by decide, by decide, hs⟩) AllT.nil))
theorem oH_ok (row : Int → List SC) {n : Int} (h0 : 0 ≤ n) (h1 : n ≤ 1048576) : AllT (oH fops n row) :=
  AllT.cons (shape_flat (mk_shape _ _ _)) (AllT.cons (pB_iff.2 ⟨rfl, h0, h1, by decide, by decide, mkR_marked _ _ _⟩) AllT.nil)
theorem gdB_ok' {g : Bool} {l : List Bool} (h : AllT l) : AllT (gdB g l) := gdB_ok fun _ => h
/-! ### a law whose answer is a stove -/
theorem AllT.iff_app {l m : List Bool} : AllT (l ++ m) ↔ AllT l ∧ AllT m := ⟨fun h => h.append, fun h => AllT.app h.1 h.2⟩
noncomputable def obG (O : FOps) (F : Nat → Int → Nat) (G : Nat → Int → Int) (n : Int) (Ss Si : List Bool) (n2 : Int) (Ri Rs : Int → List SC) (T E : Bool) : List Bool :=
  [!decide (lf n < 0)] ++ (oC F G n ++ Ss) ++ (oC F G n ++ Si) ++ oE n2 Ri Rs ++ [!T] ++ oC F G n ++ oE n (R1 F G n) (R1 F G n) ++ [!!E] ++ oM O n (R1 F G n) ++ gdB (ng n) (oE n2 Ri Rs) ++ [!(bif ng n then true else T)] ++
  oM O n2 Ri ++ oH O n2 Ri ++ oQ n2 ++ (oC F G n ++ Si) ++ oE n2 Ri Rs ++ [!T] ++ oH O n2 Ri ++ oQ n2
noncomputable def obGe (O : FOps) (F : Nat → Int → Nat) (G : Nat → Int → Int) (n : Int) (Ss Si : List Bool) (T E : Bool) : List Bool :=
  [!decide (lf n < 0)] ++ (oC F G n ++ Ss) ++ (oC F G n ++ Si) ++ [!T] ++ oC F G n ++ oE n (R1 F G n) (R1 F G n) ++ [!!E] ++ oM O n (R1 F G n) ++ [!(bif ng n then true else T)] ++ (oC F G n ++ Si) ++ [!T]
noncomputable def ob0 (Ss Si : List Bool) (T E : Bool) : List Bool := Ss ++ Si ++ [!T, !!E, !T] ++ Si ++ [!T]
theorem obG_ok (F : Nat → Int → Nat) (G : Nat → Int → Int) {n : Int} (h0 : 0 ≤ n) (h1 : n ≤ 1048576) {Ss Si : List Bool} (hs : AllT Ss) (hi : AllT Si) {n2 : Int} (k0 : 0 ≤ n2) (k1 : n2 ≤ 1048576) {Ri Rs : Int → List SC} (hri : Shape ts Ri) (hrs : Shape ts Rs) {T E : Bool} (hT : T = false) (hE : E = true) :
    AllT (obG fops F G n Ss Si n2 Ri Rs T E) := by
  have c := oC_ok F G h0 h1
  have e := oE_ok hri hrs k0 k1
  have x := oE_ok (r1_shape F G n) (r1_shape F G n) h0 h1
  have m := oM_ok (r1_shape F G n) h0 h1
  have m2 := oM_ok hri k0 k1
  have y := oH_ok Ri k0 k1
  have z := oQ_ok k0
  unfold obG
  rw [hT, hE, lf_small h0 h1, ng_false h0]
  simp only [AllT.iff_app]
  exact ⟨⟨⟨⟨⟨⟨⟨⟨⟨⟨⟨⟨⟨⟨⟨⟨⟨⟨AllT.one rfl, c, hs⟩, c, hi⟩, e⟩, AllT.one rfl⟩, c⟩, x⟩, AllT.one rfl⟩, m⟩, gdB_ok' e⟩, AllT.one rfl⟩, m2⟩, y⟩, z⟩, c, hi⟩, e⟩, AllT.one rfl⟩, y⟩, z⟩
theorem obGe_ok (F : Nat → Int → Nat) (G : Nat → Int → Int) {n : Int} (h0 : 0 ≤ n) (h1 : n ≤ 1048576) {Ss Si : List Bool} (hs : AllT Ss) (hi : AllT Si) {T E : Bool} (hT : T = false) (hE : E = true) : AllT (obGe fops F G n Ss Si T E) := by
  have c := oC_ok F G h0 h1
  have x := oE_ok (r1_shape F G n) (r1_shape F G n) h0 h1
  have m := oM_ok (r1_shape F G n) h0 h1
  unfold obGe
  rw [hT, hE, lf_small h0 h1, ng_false h0]
  simp only [AllT.iff_app]
  exact ⟨⟨⟨⟨⟨⟨⟨⟨⟨⟨AllT.one rfl, c, hs⟩, c, hi⟩, AllT.one rfl⟩, c⟩, x⟩, AllT.one rfl⟩, m⟩, AllT.one rfl⟩, c, hi⟩, AllT.one rfl⟩
theorem ob0_ok {Ss Si : List Bool} (hs : AllT Ss) (hi : AllT Si) {T E : Bool} (hT : T = false) (hE : E = true) : AllT (ob0 Ss Si T E) := by
  unfold ob0
  rw [hT, hE]
  simp only [AllT.iff_app]
  exact ⟨⟨⟨⟨hs, hi⟩, AllT.cons rfl (AllT.cons rfl (AllT.cons rfl AllT.nil))⟩, hi⟩, AllT.one rfl⟩
theorem gd1 {g b : Bool} (h : g = false → b = true) : AllT (gdB g [b]) := gdB_ok fun e => AllT.one (h e)
theorem nn {b : Bool} (h : b = true) : (!!b) = true := by rw [h]; rfl
/-! ### the same, where the rows of the answer are told of more generally -/
noncomputable def oE2 (n N M : Int) (row row' : Int → List SC) : List Bool := [flatR row', flatR row, okE' n N row n M row']
noncomputable def oM2 (O : FOps) (n N : Int) (row : Int → List SC) : List Bool := [flatR row, flatR (mkR O 1 n row), okM' n 1 N row]
noncomputable def obH (O : FOps) (F : Nat → Int → Nat) (G : Nat → Int → Int) (n : Int) (Ss Si : List Bool) (n2 Ni Ns : Int) (Ri Rs : Int → List SC) (T E : Bool) : List Bool :=
  [!decide (lf n < 0)] ++ (oC F G n ++ Ss) ++ (oC F G n ++ Si) ++ oE2 n2 Ni Ns Ri Rs ++ [!T] ++ oC F G n ++ oE n (R1 F G n) (R1 F G n) ++ [!!E] ++ oM O n (R1 F G n) ++ gdB (ng n) (oE2 n2 Ni Ns Ri Rs) ++ [!(bif ng n then true else T)] ++
  oM2 O n2 Ni Ri ++ oH O n2 Ri ++ oQ n2 ++ (oC F G n ++ Si) ++ oE2 n2 Ni Ns Ri Rs ++ [!T] ++ oH O n2 Ri ++ oQ n2
theorem oE2_ok {row row' : Int → List SC} (hs : Shape ts row) (hs' : Shape ts row') {n N M : Int} (h0 : 0 ≤ n) (h1 : n ≤ 1048576) (hN : N = n) (hM : M = n) : AllT (oE2 n N M row row') := by
  subst hN
  subst hM
  exact oE_ok hs hs' h0 h1
theorem obH_ok (F : Nat → Int → Nat) (G : Nat → Int → Int) {n : Int} (h0 : 0 ≤ n) (h1 : n ≤ 1048576) {Ss Si : List Bool} (hs : AllT Ss) (hi : AllT Si) {n2 Ni Ns : Int} (k0 : 0 ≤ n2) (k1 : n2 ≤ 1048576) (hNi : Ni = n2) (hNs : Ns = n2) {Ri Rs : Int → List SC} (hri : Shape ts Ri) (hrs : Shape ts Rs) {T E : Bool} (hT : T = false) (hE : E = true) :
    AllT (obH fops F G n Ss Si n2 Ni Ns Ri Rs T E) := by
  subst hNi
  subst hNs
  exact obG_ok F G h0 h1 hs hi k0 k1 hri hrs hT hE
noncomputable def oVc (n : Int) (row : Int → List SC) : List Bool := [flatR row, okN n n row]
theorem oVc_ok {row : Int → List SC} (hs : Shape ts row) {n : Int} (h0 : 0 ≤ n) (h1 : n ≤ 1048576) : AllT (oVc n row) :=
  AllT.cons (shape_flat hs) (AllT.one (pB_iff.2 ⟨rfl, h0, h1, hs⟩))
theorem vC_six {O : FOps} {n : Int} {row : Int → List SC} (h : vC O n row = true) : 1 ≤ n ∧ n ≤ 6 := by
  unfold vC vC' rgI at h
  cases h1 : decide (n < 1) with
  | true => rw [h1] at h; cases h
  | false =>
    cases h6 : decide (6 < n) with
    | true => rw [h1, h6] at h; cases h
    | false =>
      have := of_decide_eq_false h6
      have := of_decide_eq_false h1
      omega
/-! ### ValidChimney -/
noncomputable def hV : List (Nat × Bool) := [(11, false), (21, false), (26, false)]
noncomputable def obV (O : FOps) (F : Nat → Int → Nat) (G : Nat → Int → Int) (n : Int) : List Bool := [!decide (lf n < 0)] ++ (oC F G n ++ oVc n (R1 F G n)) ++ (oC F G n ++ oVc n (R1 F G n)) ++ [!!(vC O n (R1 F G n) == vC O n (R1 F G n))] ++ oC F G n ++ oE n (R1 F G n) (R1 F G n) ++ [!!eqR O n n (R1 F G n) (R1 F G n)]
noncomputable def hS : List (Nat × Bool) := [(14, false), (19, false), (34, false), (39, false), (44, false)]
noncomputable def rd2 (F : Nat → Int → Nat) (G : Nat → Int → Int) (n : Int) (H : Nat → Int → Nat) (I : Nat → Int → Int) (m : Int) : List (Nat × Seg) := [(1, ⟨false, false, .rows 5 n (Row F G)⟩), (2, ⟨false, false, .rows 5 m (Row H I)⟩)]
noncomputable def lf2 (n m : Int) : Int := szf (lf n) m
noncomputable def oS (n m : Int) (row row' : Int → List SC) : List Bool := [flatR row', flatR row, okE' n n row m m row']
noncomputable def obS (O : FOps) (F : Nat → Int → Nat) (G : Nat → Int → Int) (n : Int) (H : Nat → Int → Nat) (I : Nat → Int → Int) (m : Int) : List Bool :=
  [!decide (lf n < 0), !decide (lf2 n m < 0)] ++ oC F G n ++ oC H I m ++ oS n m (R1 F G n) (R1 H I m) ++ oC F G n ++ oC H I m ++ oS n m (R1 F G n) (R1 H I m) ++ [!!(sR n m (R1 F G n) (R1 H I m) == sR n m (R1 F G n) (R1 H I m))] ++
  oC F G n ++ oE n (R1 F G n) (R1 F G n) ++ [!!eqR O n n (R1 F G n) (R1 F G n)] ++ oC H I m ++ oE m (R1 H I m) (R1 H I m) ++ [!!eqR O m m (R1 H I m) (R1 H I m)]
end
end Go.Proofs.Ytaoeigofmfpamaa.Chl
end

/- The branches of a trunk: both functions. Nothing is assumed. -/
section
namespace Go.Proofs.Ytaoeigofmfpamaa.Smk
open Go SlFlue
noncomputable section
noncomputable def hintS (l : List (Nat × Bool)) (t : Nat) : Option Bool := List.rec (motive := fun _ => Option Bool) none (fun p _ ih => bif Nat.beq t p.1 then some p.2 else ih) l
noncomputable def cx0 (O : FOps) : Cx := ⟨Try.prog, O, orcN Try.prog O [] 8⟩
noncomputable def inb (n k : Int) : Bool := decide (0 ≤ k ∧ k < n)
theorem inb_ok {n k : Int} (h0 : 0 ≤ k) (h1 : k < n) : inb n k = true := decide_eq_true ⟨h0, h1⟩
noncomputable def bE : Sk := ⟨[(5, .c (.sl 3 0 1 true))], [(1, ⟨false, false, .rows 5⟩), (3, ⟨true, true, .rows 1⟩)], 4⟩
noncomputable def bED (m n : Int) (row : Int → List SC) (M : Int) (ro : Int → List SC) : List LD := [.i m, .i n, .r row, .i M, .r ro]
/-! ### impl.branches -/
noncomputable def bNI : Nat := Try.f89.ntmps
noncomputable def bIk : Sk := ⟨[(1, .c (.int .i64)), (5, .c (.sl 3 0 1 true)), (9, .c (.sl 1 0 5 false)), (10, .c (.int .i64)), (11, .c (.int .i64))], [(1, ⟨false, false, .rows 5⟩), (3, ⟨true, true, .rows 1⟩)], 4⟩
noncomputable def bID (t m n k : Int) (row : Int → List SC) (M : Int) (ro : Int → List SC) : List LD := [.i t, .i m, .i n, .i n, .i k] ++ [.i n, .r row, .i M, .r ro]
noncomputable def bIg (O : FOps) (h : List (Nat × Bool)) (ρ : List (Nat × Nat)) (sk : Sk) (t m n k : Int) (F : Nat → Int → Nat) (G : Nat → Int → Int) (M : Int) (ro : Int → List SC) : Option (Option XK × List LD × List Bool) :=
  goL (cx0 O) bNI ⟨hintS h, fun _ => none⟩ (bodyOf Try.f89 3) 3 60 bIk ρ sk (bID t m n k (Row F G) M ro)
set_option maxRecDepth 100000 in
theorem bIY (O : FOps) (t m n k : Int) (F : Nat → Int → Nat) (G : Nat → Int → Int) (M : Int) (ro : Int → List SC) : bIg O [(12, true), (19, true)] [(6, 3)] bIk t m n k F G M ro = some (none, bID t (m + 1) n (IntKind.i64.wrap (k + 1)) (Row F G) (m + 1) (ap ro m k), [decide (k < n), inb n k, inb n k] ++ [decide (G 4 k = t), decide (0 ≤ m ∧ m ≤ M ∧ m ≤ 999999), flatR (Row F G), flatR (ap ro m k)]) := by kernel_rfl
set_option maxRecDepth 100000 in
theorem bIN (O : FOps) (t m n k : Int) (F : Nat → Int → Nat) (G : Nat → Int → Int) (M : Int) (ro : Int → List SC) : bIg O [(12, true), (19, false)] [] bIk t m n k F G M ro = some (none, bID t m n (IntKind.i64.wrap (k + 1)) (Row F G) M ro, [decide (k < n), inb n k, inb n k] ++ [!decide (G 4 k = t), flatR (Row F G), flatR ro]) := by kernel_rfl
set_option maxRecDepth 100000 in
theorem bIE (O : FOps) (t m n k : Int) (F : Nat → Int → Nat) (G : Nat → Int → Int) (M : Int) (ro : Int → List SC) : bIg O [(12, false)] [] bE t m n k F G M ro = some (some (.exit 0), bED m n (Row F G) M ro, [!decide (k < n), flatR (Row F G), flatR ro]) := by kernel_rfl
theorem bIl (F : Nat → Int → Nat) (G : Nat → Int → Int) {n : Int} (hn : n ≤ 900000) (t : Int) : ∀ (q : Nat) (k m : Int) (ro : Int → List SC), 0 ≤ k → k + q = n → 0 ≤ m → m ≤ k → flatR ro = true →
    Loops (cx0 fops) bNI (fun _ => none) (bodyOf Try.f89 3) 3 60 bIk (bID t m n k (Row F G) m ro) (.exit 0) bE (bED (brn (G 4) t q k m ro).1 n (Row F G) (brn (G 4) t q k m ro).1 (brn (G 4) t q k m ro).2) := by
  have fl : flatR (Row F G) = true := rowK_flat _ _ _
  intro q
  induction q with
  | zero =>
    intro k m ro hk hkn hm hmk hf
    have e : k = n := by omega
    subst e
    exact .done (ρ := []) (bIE fops t m k k F G m ro) (AllT.cons (by simp) (AllT.cons fl (AllT.one' hf)))
  | succ q ih =>
    intro k m ro hk hkn hm hmk hf
    have hd : AllT [decide (k < n), inb n k, inb n k] := AllT.cons (decide_eq_true (by omega)) (AllT.cons (inb_ok hk (by omega)) (AllT.one' (inb_ok hk (by omega))))
    have hE : brn (G 4) t (q + 1) k m ro = bif decide (G 4 k = t) then brn (G 4) t q (k + 1) (m + 1) (ap ro m k) else brn (G 4) t q (k + 1) m ro := rfl
    rw [hE]
    cases hc : decide (G 4 k = t) with
    | true =>
      have h1 := bIY fops t m n k F G m ro
      rw [wrap_succ hk (by omega)] at h1
      have hf' := flat_ap hf m k
      exact .step (ρ := [(6, 3)]) h1 (AllT.app hd (AllT.cons hc (AllT.cons (by simp; omega) (AllT.cons fl (AllT.one' hf'))))) (ih (k + 1) (m + 1) _ (by omega) (by omega) (by omega) (by omega) hf')
    | false =>
      have h1 := bIN fops t m n k F G m ro
      rw [wrap_succ hk (by omega)] at h1
      exact .step (ρ := []) h1 (AllT.app hd (AllT.cons (by rw [hc]; rfl) (AllT.cons fl (AllT.one' hf)))) (ih (k + 1) m ro (by omega) (by omega) hm (by omega) hf)
noncomputable def bPI (m n n2 k N : Int) (row : Int → List SC) (M : Int) (ro : Int → List SC) : Prop := n2 = n ∧ m = 0 ∧ k = 0 ∧ N = n ∧ M = 0 ∧ 0 ≤ n ∧ n ≤ 900000 ∧ Shape ts row ∧ flatR ro = true
noncomputable def bFI : List LD → Option (XO × List Bool)
  | [.i t, .i m, .i n, .i n2, .i k, .i N, .r row, .i M, .r ro] => some ([(.t, .exit 0, bE, bED (brn (datG row 4) t n.toNat 0 0 ro).1 n row (brn (datG row 4) t n.toNat 0 0 ro).1 (brn (datG row 4) t n.toNat 0 0 ro).2)], [pB (bPI m n n2 k N row M ro)])
  | _ => none
noncomputable def bLI (O : FOps) : List Ly → Top → Option Outs := loopL bNI 3 60 bIk [(2, 3)] bFI
theorem bOI : CodeOK Try.prog bNI (.loop (bodyOf Try.f89 3)) (bLI fops) := loopL_ok (cx := cx0 fops) (lp := fun _ => none) (fun ts => body_ok (l := []) trivial mixed 8 _ ts) fun p r hr hob => by
  unfold bFI at hr
  split at hr <;> cases hr
  rename_i t m n n2 k N row M ro
  obtain ⟨e0, e1, e2, e3, e4, h0, h1, hs, hf⟩ := pB_iff.1 hob.head
  have h := bIl (datF row) (datG row) h1 t n.toNat 0 0 ro (Int.le_refl _) (by omega) (Int.le_refl _) (Int.le_refl _) hf
  have hs1 : Row (datF row) (datG row) = row := hs.symm
  rw [hs1] at h
  rw [e0, e1, e2, e3, e4]
  exact ⟨_, _, _, rfl, h⟩
set_option maxRecDepth 100000 in
theorem bCI : CallOK Try.prog 89 (nwS (inl (cx0 fops) Try.f89 ⟨fun _ => none, lpOf [(3, bLI fops)]⟩)) := by
  have hb : Try.f89.body.isSome = true := by kernel_rfl
  obtain ⟨c, hc⟩ := Option.isSome_iff_exists.1 hb
  have h1 : (match Try.f89.body with | some c => onceB (loopsIn c) && (match loopAt 3 (loopsIn c) with | some _ => true | none => false) | none => false) = true := by kernel_rfl
  rw [hc] at h1
  simp only [Bool.and_eq_true] at h1
  exact (inlL_of (l := []) (ls := [(3, bLI fops)]) trivial mixed 8 Try.func89 (by kernel_rfl) (fun _ => none) hc h1.1 ⟨⟨_, bodyOf_at hc h1.2, bOI⟩, trivial⟩).nw
set_option maxRecDepth 100000 in
theorem bIr (O : FOps) (f w o : Bool) (n N t : Int) (row : Int → List SC) : nwS (inl (cx0 O) Try.f89 ⟨fun _ => none, lpOf [(3, bLI O)]⟩) 2 [.c (.sl 1 0 5 (.s n) f), .c (.int .i64 (.s t))] [(1, ⟨w, o, .rows 5 N row⟩)] =
    some ⟨.c (.sl 3 0 1 (.s (cnt (datG row 4) n t)) true), [(3, some ⟨true, true, .rows 1 (cnt (datG row 4) n t) (lst (datG row 4) n t)⟩)], 60, [flatR row, pB (bPI 0 n n 0 N row 0 (fun _ => []))]⟩ := by kernel_rfl
/-! ### spec.l03Branches -/
noncomputable def bNS : Nat := Try.f83.ntmps
noncomputable def bSk : Sk := ⟨[(0, .c (.sl 1 0 5 false)), (1, .c (.int .i64)), (5, .c (.sl 3 0 1 true)), (6, .c (.int .i64))], [(1, ⟨false, false, .rows 5⟩), (3, ⟨true, true, .rows 1⟩)], 4⟩
noncomputable def bSD (t m n k : Int) (row : Int → List SC) (M : Int) (ro : Int → List SC) : List LD := [.i n, .i t, .i m, .i k] ++ [.i n, .r row, .i M, .r ro]
noncomputable def bSg (O : FOps) (h : List (Nat × Bool)) (ρ : List (Nat × Nat)) (sk : Sk) (t m n k : Int) (F : Nat → Int → Nat) (G : Nat → Int → Int) (M : Int) (ro : Int → List SC) : Option (Option XK × List LD × List Bool) :=
  goL (cx0 O) bNS ⟨hintS h, fun _ => none⟩ (bodyOf Try.f83 3) 3 60 bSk ρ sk (bSD t m n k (Row F G) M ro)
set_option maxRecDepth 100000 in
theorem bSY (O : FOps) (t m n k : Int) (F : Nat → Int → Nat) (G : Nat → Int → Int) (M : Int) (ro : Int → List SC) : bSg O [(11, true), (20, true)] [(5, 3)] bSk t m n k F G M ro = some (none, bSD t (m + 1) n (IntKind.i64.wrap (k + 1)) (Row F G) (m + 1) (ap ro m k), [decide (k < n), inb n k, inb n k] ++ [decide (G 4 k = t), decide (0 ≤ m ∧ m ≤ M ∧ m ≤ 999999), flatR (Row F G), flatR (ap ro m k)]) := by kernel_rfl
set_option maxRecDepth 100000 in
theorem bSN (O : FOps) (t m n k : Int) (F : Nat → Int → Nat) (G : Nat → Int → Int) (M : Int) (ro : Int → List SC) : bSg O [(11, true), (20, false)] [] bSk t m n k F G M ro = some (none, bSD t m n (IntKind.i64.wrap (k + 1)) (Row F G) M ro, [decide (k < n), inb n k, inb n k] ++ [!decide (G 4 k = t), flatR (Row F G), flatR ro]) := by kernel_rfl
set_option maxRecDepth 100000 in
theorem bSE (O : FOps) (t m n k : Int) (F : Nat → Int → Nat) (G : Nat → Int → Int) (M : Int) (ro : Int → List SC) : bSg O [(11, false)] [] bE t m n k F G M ro = some (some (.exit 0), bED m n (Row F G) M ro, [!decide (k < n), flatR (Row F G), flatR ro]) := by kernel_rfl
theorem bSl (F : Nat → Int → Nat) (G : Nat → Int → Int) {n : Int} (hn : n ≤ 900000) (t : Int) : ∀ (q : Nat) (k m : Int) (ro : Int → List SC), 0 ≤ k → k + q = n → 0 ≤ m → m ≤ k → flatR ro = true →
    Loops (cx0 fops) bNS (fun _ => none) (bodyOf Try.f83 3) 3 60 bSk (bSD t m n k (Row F G) m ro) (.exit 0) bE (bED (brn (G 4) t q k m ro).1 n (Row F G) (brn (G 4) t q k m ro).1 (brn (G 4) t q k m ro).2) := by
  have fl : flatR (Row F G) = true := rowK_flat _ _ _
  intro q
  induction q with
  | zero =>
    intro k m ro hk hkn hm hmk hf
    have e : k = n := by omega
    subst e
    exact .done (ρ := []) (bSE fops t m k k F G m ro) (AllT.cons (by simp) (AllT.cons fl (AllT.one' hf)))
  | succ q ih =>
    intro k m ro hk hkn hm hmk hf
    have hd : AllT [decide (k < n), inb n k, inb n k] := AllT.cons (decide_eq_true (by omega)) (AllT.cons (inb_ok hk (by omega)) (AllT.one' (inb_ok hk (by omega))))
    have hE : brn (G 4) t (q + 1) k m ro = bif decide (G 4 k = t) then brn (G 4) t q (k + 1) (m + 1) (ap ro m k) else brn (G 4) t q (k + 1) m ro := rfl
    rw [hE]
    cases hc : decide (G 4 k = t) with
    | true =>
      have h1 := bSY fops t m n k F G m ro
      rw [wrap_succ hk (by omega)] at h1
      have hf' := flat_ap hf m k
      exact .step (ρ := [(5, 3)]) h1 (AllT.app hd (AllT.cons hc (AllT.cons (by simp; omega) (AllT.cons fl (AllT.one' hf'))))) (ih (k + 1) (m + 1) _ (by omega) (by omega) (by omega) (by omega) hf')
    | false =>
      have h1 := bSN fops t m n k F G m ro
      rw [wrap_succ hk (by omega)] at h1
      exact .step (ρ := []) h1 (AllT.app hd (AllT.cons (by rw [hc]; rfl) (AllT.cons fl (AllT.one' hf)))) (ih (k + 1) m ro (by omega) (by omega) hm (by omega) hf)
noncomputable def bPS (m n k N : Int) (row : Int → List SC) (M : Int) (ro : Int → List SC) : Prop := m = 0 ∧ k = 0 ∧ N = n ∧ M = 0 ∧ 0 ≤ n ∧ n ≤ 900000 ∧ Shape ts row ∧ flatR ro = true
noncomputable def bFS : List LD → Option (XO × List Bool)
  | [.i n, .i t, .i m, .i k, .i N, .r row, .i M, .r ro] => some ([(.t, .exit 0, bE, bED (brn (datG row 4) t n.toNat 0 0 ro).1 n row (brn (datG row 4) t n.toNat 0 0 ro).1 (brn (datG row 4) t n.toNat 0 0 ro).2)], [pB (bPS m n k N row M ro)])
  | _ => none
noncomputable def bLS (O : FOps) : List Ly → Top → Option Outs := loopL bNS 3 60 bSk [(2, 3)] bFS
theorem bOS : CodeOK Try.prog bNS (.loop (bodyOf Try.f83 3)) (bLS fops) := loopL_ok (cx := cx0 fops) (lp := fun _ => none) (fun ts => body_ok (l := []) trivial mixed 8 _ ts) fun p r hr hob => by
  unfold bFS at hr
  split at hr <;> cases hr
  rename_i n t m k N row M ro
  obtain ⟨e1, e2, e3, e4, h0, h1, hs, hf⟩ := pB_iff.1 hob.head
  have h := bSl (datF row) (datG row) h1 t n.toNat 0 0 ro (Int.le_refl _) (by omega) (Int.le_refl _) (Int.le_refl _) hf
  have hs1 : Row (datF row) (datG row) = row := hs.symm
  rw [hs1] at h
  rw [e1, e2, e3, e4]
  exact ⟨_, _, _, rfl, h⟩
set_option maxRecDepth 100000 in
theorem bCS : CallOK Try.prog 83 (nwS (inl (cx0 fops) Try.f83 ⟨fun _ => none, lpOf [(3, bLS fops)]⟩)) := by
  have hb : Try.f83.body.isSome = true := by kernel_rfl
  obtain ⟨c, hc⟩ := Option.isSome_iff_exists.1 hb
  have h1 : (match Try.f83.body with | some c => onceB (loopsIn c) && (match loopAt 3 (loopsIn c) with | some _ => true | none => false) | none => false) = true := by kernel_rfl
  rw [hc] at h1
  simp only [Bool.and_eq_true] at h1
  exact (inlL_of (l := []) (ls := [(3, bLS fops)]) trivial mixed 8 Try.func83 (by kernel_rfl) (fun _ => none) hc h1.1 ⟨⟨_, bodyOf_at hc h1.2, bOS⟩, trivial⟩).nw
set_option maxRecDepth 100000 in
theorem bSr (O : FOps) (f w o : Bool) (n N t : Int) (row : Int → List SC) : nwS (inl (cx0 O) Try.f83 ⟨fun _ => none, lpOf [(3, bLS O)]⟩) 2 [.c (.sl 1 0 5 (.s n) f), .c (.int .i64 (.s t))] [(1, ⟨w, o, .rows 5 N row⟩)] =
    some ⟨.c (.sl 3 0 1 (.s (cnt (datG row 4) n t)) true), [(3, some ⟨true, true, .rows 1 (cnt (datG row 4) n t) (lst (datG row 4) n t)⟩)], 60, [flatR row, pB (bPS 0 n 0 N row 0 (fun _ => []))]⟩ := by kernel_rfl
/-! ### told by hand -/
noncomputable def okB (n N : Int) (row : Int → List SC) : Bool := pB (N = n ∧ 0 ≤ n ∧ n ≤ 900000 ∧ Shape ts row)
noncomputable def brH : CS := fun base args rd => match args with
  | [.c (.sl i o es (.s n) _), .c (.int .i64 (.s t))] => match rd with
    | [(j, ⟨_, _, .rows st N row⟩)] => match Nat.beq base 2 && (Nat.beq i 1 && (Nat.beq o 0 && (Nat.beq es 5 && (Nat.beq j 1 && Nat.beq st 5)))) with
      | true => some ⟨.c (.sl 3 0 1 (.s (cnt (datG row 4) n t)) true), [(3, some ⟨true, true, .rows 1 (cnt (datG row 4) n t) (RowI (ix (datG row 4) n t))⟩)], 60, [okB n N row]⟩
      | false => none
    | _ => none
  | _ => none
/-- 'H' tells less than 'S'. -/
theorem lesS {P : Program} {f : FuncId} {S H : CS} (h : CallOK P f S) (hH : ∀ b args rd e, H b args rd = some e → AllT e.obs → ∃ e1, S b args rd = some e1 ∧ AllT e1.obs ∧ e1.ret = e.ret ∧ e1.next = e.next ∧ ∀ f i g', updSs f e.ws i = some g' → ∃ g, updSs f e1.ws i = some g ∧ SegLe g g') : CallOK P f H := by
  intro E base args vals rd w e hs hob hargs hb1 hbe hfr hmem
  obtain ⟨e1, h1, h2, h3, h4, h5⟩ := hH _ _ _ _ hs hob
  refine (h E base args vals rd w e1 h1 h2 hargs hb1 (by rw [h4]; exact hbe) (by rw [h4]; exact hfr) hmem).mono fun v w' hp => ?_
  obtain ⟨E', k1, k2, k3, k4⟩ := hp
  exact ⟨E', k1, fun i hi => by rw [← h4]; exact k2 i hi, by rw [← h3]; exact k3, k4.weaken fun i g' hg => h5 _ i g' hg⟩
theorem upd_lesS {f : Nat → Option Seg} {i : Nat} {g1 g2 : Seg} (h : SegLe g1 g2) : ∀ j g', updSs f [(i, some g2)] j = some g' → ∃ g, updSs f [(i, some g1)] j = some g ∧ SegLe g g' := by
  intro j g' hj
  have hj' : upd f i (some g2) j = some g' := hj
  show ∃ g, upd f i (some g1) j = some g ∧ SegLe g g'
  by_cases e : j = i
  · subst e
    rw [upd_same] at hj'
    cases hj'
    exact ⟨g1, upd_same _ _ _, h⟩
  · rw [upd_other _ _ e] at hj'
    exact ⟨g', by rw [upd_other _ _ e]; exact hj', SegLe.refl _⟩
set_option maxRecDepth 100000 in
theorem cBrI : CallOK Try.prog 89 (canS brH) := CallOK.can (lesS bCI fun bs args rd e hh hob => by
  unfold brH at hh
  split at hh <;> try (cases hh; done)
  rename_i i o es n f t
  split at hh <;> try (cases hh; done)
  rename_i j w p st N row
  split at hh <;> cases hh
  rename_i hc
  simp only [Bool.and_eq_true, beqN] at hc
  obtain ⟨rfl, rfl, rfl, rfl, rfl, rfl⟩ := hc
  obtain ⟨hN, h0, h1, hs⟩ := pB_iff.1 (show pB _ = true from hob.head)
  refine ⟨_, bIr fops f w p n N t row, AllT.cons (shape_flat hs) (AllT.one' (pB_iff.2 ⟨rfl, rfl, rfl, hN, rfl, h0, h1, hs, flat_nil⟩)), rfl, rfl, fun f => upd_lesS (lst_le _ h0 _)⟩)
set_option maxRecDepth 100000 in
theorem cBrS : CallOK Try.prog 83 (canS brH) := CallOK.can (lesS bCS fun bs args rd e hh hob => by
  unfold brH at hh
  split at hh <;> try (cases hh; done)
  rename_i i o es n f t
  split at hh <;> try (cases hh; done)
  rename_i j w p st N row
  split at hh <;> cases hh
  rename_i hc
  simp only [Bool.and_eq_true, beqN] at hc
  obtain ⟨rfl, rfl, rfl, rfl, rfl, rfl⟩ := hc
  obtain ⟨hN, h0, h1, hs⟩ := pB_iff.1 (show pB _ = true from hob.head)
  refine ⟨_, bSr fops f w p n N t row, AllT.cons (shape_flat hs) (AllT.one' (pB_iff.2 ⟨rfl, rfl, hN, rfl, h0, h1, hs, flat_nil⟩)), rfl, rfl, fun f => upd_lesS (lst_le _ h0 _)⟩)
end
end Go.Proofs.Ytaoeigofmfpamaa.Smk
end

/- Slices of Float32: how they are made, compared and marked. Nothing is assumed. -/
section
namespace Go.Proofs.Ytaoeigofmfpamaa.SlFloat32
open Go
noncomputable def ts : List KK := [.flt .f32]
noncomputable abbrev Row (F : Nat → Int → Nat) (G : Nat → Int → Int) : Int → List SC := rowK ts F G
theorem shape_row (F : Nat → Int → Nat) (G : Nat → Int → Int) : Shape ts (Row F G) := by
  unfold Shape
  funext j
  rfl
/-! ### made anew -/
noncomputable def skT : Sk := ⟨[(0, .c (.sl 1 0 1 false)), (3, .c (.sl 2 0 1 true)), (4, .c (.int .i64))], [(1, ⟨false, false, .rows 1⟩), (2, ⟨true, true, .rows 1⟩)], 3⟩
noncomputable def skTE : Sk := ⟨[(3, .c (.sl 2 0 1 true))], [(1, ⟨false, false, .rows 1⟩), (2, ⟨true, true, .rows 1⟩)], 3⟩
noncomputable def cxT (O : FOps) : Cx := ⟨Try.prog, O, orcN Try.prog O [] 8⟩
noncomputable def toN : Nat := Try.f22.ntmps
noncomputable def onT (b : Bool) (t : Nat) : Option Bool := bif Nat.beq t 11 then some b else none
noncomputable def goT (O : FOps) (b : Bool) (sk : Sk) (F : Nat → Int → Nat) (G : Nat → Int → Int) (X : Nat → Int → Nat) (Y : Nat → Int → Int) (n k : Int) : Option (Option XK × List LD × List Bool) :=
  goL (cxT O) toN ⟨onT b, fun _ => none⟩ (bodyOf Try.f22 3) 3 60 skT [] sk [.i n, .i n, .i k, .i n, .r (Row F G), .i n, .r (Row X Y)]
set_option maxRecDepth 100000 in
theorem to_step (O : FOps) (F : Nat → Int → Nat) (G : Nat → Int → Int) (X : Nat → Int → Nat) (Y : Nat → Int → Int) (n k : Int) : goT O true skT F G X Y n k =
    some (none, [.i n, .i n, .i (IntKind.i64.wrap (k + 1)), .i n, .r (Row F G), .i n, .r (Row (fun c j => bif decide (j = k) then F c k else X c j) (fun c j => bif decide (j = k) then G c k else Y c j))],
      [decide (k < n), decide (0 ≤ k ∧ k < n), decide (0 ≤ k ∧ k < n), decide (0 ≤ k ∧ k < n), decide (0 ≤ k ∧ k < n), flatR (Row F G), flatR (Row (fun c j => bif decide (j = k) then F c k else X c j) (fun c j => bif decide (j = k) then G c k else Y c j))]) := by kernel_rfl
set_option maxRecDepth 100000 in
theorem to_end (O : FOps) (F : Nat → Int → Nat) (G : Nat → Int → Int) (X : Nat → Int → Nat) (Y : Nat → Int → Int) (n k : Int) : goT O false skTE F G X Y n k =
    some (some (.exit 0), [.i n, .i n, .r (Row F G), .i n, .r (Row X Y)], [!decide (k < n), flatR (Row F G), flatR (Row X Y)]) := by kernel_rfl
noncomputable def PreT (n m k n1 : Int) (row : Int → List SC) (n2 : Int) (out : Int → List SC) : Prop :=
  m = n ∧ k = 0 ∧ n1 = n ∧ n2 = n ∧ 0 ≤ n ∧ n ≤ 1048576 ∧ Shape ts row ∧ out = Row (fun _ _ => 0) (fun _ _ => 0)
noncomputable def FT : List LD → Option (XO × List Bool)
  | [.i n, .i m, .i k, .i n1, .r row, .i n2, .r out] => some ([(.t, .exit 0, skTE, [.i n, .i n, .r row, .i n, .r (Row (clF n (datF row)) (clG n (datG row)))])], [pB (PreT n m k n1 row n2 out)])
  | _ => none
theorem to_loops (F : Nat → Int → Nat) (G : Nat → Int → Int) (n : Int) (hn : n ≤ 1048576) : ∀ (m : Nat) (k : Int), 0 ≤ k → k + m = n →
    Loops (cxT fops) toN (fun _ => none) (bodyOf Try.f22 3) 3 60 skT [.i n, .i n, .i k, .i n, .r (Row F G), .i n, .r (Row (clF k F) (clG k G))] (.exit 0) skTE [.i n, .i n, .r (Row F G), .i n, .r (Row (clF n F) (clG n G))] := by
  intro m
  induction m with
  | zero =>
    intro k hk hkn
    have e : k = n := by omega
    subst e
    refine .done (ts := onT false) (ρ := []) (to_end fops F G (clF k F) (clG k G) k k) ?_
    refine AllT.cons (by simp) (AllT.cons (rowK_flat _ _ _) (AllT.cons (rowK_flat _ _ _) AllT.nil))
  | succ m ih =>
    intro k hk hkn
    have h1 := to_step fops F G (clF k F) (clG k G) n k
    rw [clF_step hk, clG_step hk, wrap_succ hk (by omega)] at h1
    have hd : decide (k < n) = true := by simp; omega
    have hd2 : decide (0 ≤ k ∧ k < n) = true := by simp; omega
    exact .step (ts := onT true) (ρ := []) h1 (AllT.cons hd (AllT.cons hd2 (AllT.cons hd2 (AllT.cons hd2 (AllT.cons hd2 (AllT.cons (rowK_flat _ _ _) (AllT.cons (rowK_flat _ _ _) AllT.nil))))))) (ih (k + 1) (by omega) (by omega))
noncomputable def LT (O : FOps) : List Ly → Top → Option Outs := orIter (cxT O) toN (bodyOf Try.f22 3) (loopL toN 3 60 skT [] FT)
set_option maxRecDepth 100000 in
theorem okT : CodeOK Try.prog toN (.loop (bodyOf Try.f22 3)) (LT fops) := by
  refine orIter_ok (l := []) trivial mixed 8 (loopL_ok (cx := cxT fops) (lp := fun _ => none) (fun ts => body_ok (l := []) trivial mixed 8 _ ts) fun p r hr hob => ?_)
  unfold FT at hr
  split at hr <;> cases hr
  rename_i n m k n1 row n2 out
  obtain ⟨e1, e2, e3, e4, h0, hm, hs, e5⟩ := pB_iff.1 hob.head
  refine ⟨_, _, _, rfl, ?_⟩
  have h1 := to_loops (datF row) (datG row) n hm n.toNat 0 (Int.le_refl _) (by omega)
  rw [clF_zero, clG_zero] at h1
  rw [e1, e2, e3, e4, e5, hs]
  exact h1
/-- The contract of laws.toFloat32S. -/
noncomputable def toS (O : FOps) : CS := canS (inl (cxT O) Try.f22 ⟨fun _ => none, lpOf [(3, LT O)]⟩)
set_option maxRecDepth 100000 in
theorem cTo : CallOK Try.prog 22 (toS fops) := by
  have hb : Try.f22.body.isSome = true := by kernel_rfl
  obtain ⟨c, hc⟩ := Option.isSome_iff_exists.1 hb
  have h1 : (match Try.f22.body with | some c => onceB (loopsIn c) && (match loopAt 3 (loopsIn c) with | some _ => true | none => false) | none => false) = true := by kernel_rfl
  rw [hc] at h1
  simp only [Bool.and_eq_true] at h1
  exact (inlL_of (l := []) (ls := [(3, LT fops)]) trivial mixed 8 Try.func22 (by kernel_rfl) (fun _ => none) hc h1.1 ⟨⟨_, bodyOf_at hc h1.2, okT⟩, trivial⟩).can
/-! ### compared -/
noncomputable def q (O : FOps) (F : Nat → Int → Nat) (G : Nat → Int → Int) (H : Nat → Int → Nat) (I : Nat → Int → Int) (k : Int) : Bool := sf O (O.conv .f32 .f64 (F 0 k)) (O.conv .f32 .f64 (H 0 k))
noncomputable def skQ : Sk := ⟨[(0, .c (.sl 2 0 1 false)), (1, .c (.sl 1 0 1 false)), (5, .c (.int .i64))], [(1, ⟨false, false, .rows 1⟩), (2, ⟨false, false, .rows 1⟩)], 3⟩
noncomputable def skQR : Sk := ⟨[(4, .c (.boolc false))], [(1, ⟨false, false, .rows 1⟩), (2, ⟨false, false, .rows 1⟩)], 3⟩
noncomputable def skQE : Sk := ⟨[], [(1, ⟨false, false, .rows 1⟩), (2, ⟨false, false, .rows 1⟩)], 3⟩
noncomputable def LQ (O : FOps) : List (Nat × CS) := [(12, gS (sfG O))]
set_option maxRecDepth 100000 in
theorem okLQ : AllOK Try.prog (LQ fops) := ⟨cSf, trivial⟩
noncomputable def cxQ (O : FOps) : Cx := ⟨Try.prog, O, orcN Try.prog O (LQ O) 8⟩
noncomputable def eqN : Nat := Try.f24.ntmps
noncomputable def onQ (a b : Bool) (t : Nat) : Option Bool := bif Nat.beq t 14 then some a else bif Nat.beq t 28 then some b else none
noncomputable def goQ (O : FOps) (a b : Bool) (sk : Sk) (F : Nat → Int → Nat) (G : Nat → Int → Int) (H : Nat → Int → Nat) (I : Nat → Int → Int) (n m k : Int) : Option (Option XK × List LD × List Bool) :=
  goL (cxQ O) eqN ⟨onQ a b, fun _ => none⟩ (bodyOf Try.f24 4) 3 60 skQ [] sk [.i n, .i m, .i k, .i m, .r (Row H I), .i n, .r (Row F G)]
noncomputable def idx (n m k : Int) : List Bool := [decide (k < n), decide (0 ≤ k ∧ k < n), decide (0 ≤ k ∧ k < n), decide (0 ≤ k ∧ k < m), decide (0 ≤ k ∧ k < m)]
set_option maxRecDepth 100000 in
theorem eq_step (O : FOps) (F : Nat → Int → Nat) (G : Nat → Int → Int) (H : Nat → Int → Nat) (I : Nat → Int → Int) (n m k : Int) : goQ O true false skQ F G H I n m k =
    some (none, [.i n, .i m, .i (IntKind.i64.wrap (k + 1)), .i m, .r (Row H I), .i n, .r (Row F G)], idx n m k ++ [!!(q O F G H I k), flatR (Row H I), flatR (Row F G)]) := by kernel_rfl
set_option maxRecDepth 100000 in
theorem eq_ret (O : FOps) (F : Nat → Int → Nat) (G : Nat → Int → Int) (H : Nat → Int → Nat) (I : Nat → Int → Int) (n m k : Int) : goQ O true true skQR F G H I n m k =
    some (some .ret, [.i m, .r (Row H I), .i n, .r (Row F G)], idx n m k ++ [!(q O F G H I k), flatR (Row H I), flatR (Row F G)]) := by kernel_rfl
set_option maxRecDepth 100000 in
theorem eq_end (O : FOps) (F : Nat → Int → Nat) (G : Nat → Int → Int) (H : Nat → Int → Nat) (I : Nat → Int → Int) (n m k : Int) : goQ O false true skQE F G H I n m k =
    some (some (.exit 0), [.i m, .r (Row H I), .i n, .r (Row F G)], [!decide (k < n), flatR (Row H I), flatR (Row F G)]) := by kernel_rfl
theorem idx_ok {n k : Int} (h0 : 0 ≤ k) (h1 : k < n) : AllT (idx n n k) := by
  have h2 : decide (0 ≤ k ∧ k < n) = true := by simp; omega
  exact AllT.cons (by simpa using h1) (AllT.cons h2 (AllT.cons h2 (AllT.cons h2 (AllT.cons h2 AllT.nil))))
theorem eq_loops (F : Nat → Int → Nat) (G : Nat → Int → Int) (H : Nat → Int → Nat) (I : Nat → Int → Int) (n : Int) (hn : n ≤ 1048576) : ∀ (m : Nat) (k : Int), 0 ≤ k → k + m = n →
    (eqFrom (q fops F G H I) k m = true → Loops (cxQ fops) eqN (fun _ => none) (bodyOf Try.f24 4) 3 60 skQ [.i n, .i n, .i k, .i n, .r (Row H I), .i n, .r (Row F G)] (.exit 0) skQE [.i n, .r (Row H I), .i n, .r (Row F G)]) ∧
    (eqFrom (q fops F G H I) k m = false → Loops (cxQ fops) eqN (fun _ => none) (bodyOf Try.f24 4) 3 60 skQ [.i n, .i n, .i k, .i n, .r (Row H I), .i n, .r (Row F G)] .ret skQR [.i n, .r (Row H I), .i n, .r (Row F G)]) := by
  have fl : AllT [flatR (Row H I), flatR (Row F G)] := AllT.cons (rowK_flat _ _ _) (AllT.cons (rowK_flat _ _ _) AllT.nil)
  intro m
  induction m with
  | zero =>
    intro k hk hkn
    have e : k = n := by omega
    subst e
    refine ⟨fun _ => .done (ts := onQ false true) (ρ := []) (eq_end fops F G H I k k k) (AllT.cons (by simp) fl), fun h => by cases h⟩
  | succ m ih =>
    intro k hk hkn
    have hlt : k < n := by omega
    obtain ⟨i1, i2⟩ := ih (k + 1) (by omega) (by omega)
    have hE : eqFrom (q fops F G H I) k (m + 1) = bif q fops F G H I k then eqFrom (q fops F G H I) (k + 1) m else false := rfl
    rw [hE]
    cases hq : q fops F G H I k with
    | true =>
      have h1 := eq_step fops F G H I n n k
      rw [wrap_succ hk (by omega)] at h1
      have ho : AllT (idx n n k ++ [!!(q fops F G H I k), flatR (Row H I), flatR (Row F G)]) := AllT.app (idx_ok hk hlt) (AllT.cons (by rw [hq]; rfl) fl)
      exact ⟨fun h => .step (ts := onQ true false) (ρ := []) h1 ho (i1 h), fun h => .step (ts := onQ true false) (ρ := []) h1 ho (i2 h)⟩
    | false =>
      refine ⟨fun h => (by cases h), fun _ => .done (ts := onQ true true) (ρ := []) (eq_ret fops F G H I n n k) (AllT.app (idx_ok hk hlt) (AllT.cons (by rw [hq]; rfl) fl))⟩
def PreQ (n m k n1 : Int) (row : Int → List SC) (m1 : Int) (row' : Int → List SC) : Prop :=
  m = n ∧ k = 0 ∧ n1 = n ∧ m1 = n ∧ 0 ≤ n ∧ n ≤ 1048576 ∧ Shape ts row ∧ Shape ts row'
noncomputable def FQ (O : FOps) : List LD → Option (XO × List Bool)
  | [.i n, .i m, .i k, .i m1, .r row', .i n1, .r row] => some ([(.s (!eqFrom (q O (datF row) (datG row) (datF row') (datG row')) 0 n.toNat), .ret, skQR, [.i m, .r row', .i n, .r row]), (.t, .exit 0, skQE, [.i m, .r row', .i n, .r row])], [pB (PreQ n m k n1 row m1 row')])
  | _ => none
noncomputable def LE (O : FOps) : List Ly → Top → Option Outs := orIter (cxQ O) eqN (bodyOf Try.f24 4) (loopL eqN 3 60 skQ [] (FQ O))
set_option maxRecDepth 100000 in
theorem okE : CodeOK Try.prog eqN (.loop (bodyOf Try.f24 4)) (LE fops) := by
  refine orIter_ok (l := LQ fops) okLQ mixed 8 (loopL_ok (cx := cxQ fops) (lp := fun _ => none) (fun ts => body_ok (l := LQ fops) okLQ mixed 8 _ ts) fun p r hr hob => ?_)
  unfold FQ at hr
  split at hr <;> cases hr
  rename_i n m k m1 row' n1 row
  obtain ⟨e1, e2, e3, e4, h0, hm, hs, hs'⟩ := pB_iff.1 hob.head
  obtain ⟨h1, h2⟩ := eq_loops (datF row) (datG row) (datF row') (datG row') n hm n.toNat 0 (Int.le_refl _) (by omega)
  have hs1 : Row (datF row) (datG row) = row := hs.symm
  have hs2 : Row (datF row') (datG row') = row' := hs'.symm
  rw [hs1, hs2] at h1 h2
  rw [e1, e2, e3, e4]
  cases hq : eqFrom (q fops (datF row) (datG row) (datF row') (datG row')) 0 n.toNat with
  | true => exact ⟨_, _, _, by simp [pickX, SB.val], h1 hq⟩
  | false => exact ⟨_, _, _, by simp [pickX, SB.val], h2 hq⟩
/-- The contract of laws.eqFloat32S. -/
noncomputable def eqS (O : FOps) : CS := roS (canS (inl (cxQ O) Try.f24 ⟨fun _ => none, lpOf [(4, LE O)]⟩))
set_option maxRecDepth 100000 in
theorem cEqS : CallOK Try.prog 24 (eqS fops) := by
  have hb : Try.f24.body.isSome = true := by kernel_rfl
  obtain ⟨c, hc⟩ := Option.isSome_iff_exists.1 hb
  have h1 : (match Try.f24.body with | some c => onceB (loopsIn c) && (match loopAt 4 (loopsIn c) with | some _ => true | none => false) | none => false) = true := by kernel_rfl
  rw [hc] at h1
  simp only [Bool.and_eq_true] at h1
  exact (inlL_of (l := LQ fops) (ls := [(4, LE fops)]) okLQ mixed 8 Try.func24 (by kernel_rfl) (fun _ => none) hc h1.1 ⟨⟨_, bodyOf_at hc h1.2, okE⟩, trivial⟩).can.ro
theorem q_self (F : Nat → Int → Nat) (G : Nat → Int → Int) (m : Nat) : eqFrom (q fops F G F G) 0 m = true := eqFrom_all (fun k => by unfold q; exact sf_self _) m 0
/-! ### marked -/
noncomputable def mkF (O : FOps) (u : Int) (k : Int) (X : Nat → Int → Nat) (c : Nat) (j : Int) : Nat := bif decide (0 ≤ j) && decide (j < k) then O.ofInt .f32 (wr (u + 1 * j) c) else X c j
noncomputable def mkG (u : Int) (k : Int) (Y : Nat → Int → Int) (c : Nat) (j : Int) : Int := bif decide (0 ≤ j) && decide (j < k) then wr (u + 1 * j) c else Y c j
theorem mkF_zero (O : FOps) (u : Int) (X : Nat → Int → Nat) : mkF O u 0 X = X := by
  funext c j
  unfold mkF
  by_cases h : 0 ≤ j
  · rw [decide_eq_false (by omega : ¬ j < 0), Bool.and_false]; rfl
  · rw [decide_eq_false h]; rfl
theorem mkG_zero (u : Int) (X : Nat → Int → Int) : mkG u 0 X = X := by
  funext c j
  unfold mkG
  by_cases h : 0 ≤ j
  · rw [decide_eq_false (by omega : ¬ j < 0), Bool.and_false]; rfl
  · rw [decide_eq_false h]; rfl
theorem mkF_step {k : Int} (hk : 0 ≤ k) (O : FOps) (u : Int) (X : Nat → Int → Nat) : (fun c j => bif decide (j = k) then O.ofInt .f32 (wr (u + 1 * k) c) else mkF O u k X c j) = mkF O u (k + 1) X := by
  funext c j
  unfold mkF
  by_cases e : j = k
  · subst e
    have h1 : j < j + 1 := by omega
    simp [hk, h1]
  · rw [decide_eq_false e]
    by_cases h : j < k
    · rw [decide_eq_true h, decide_eq_true (by omega : j < k + 1)]; rfl
    · rw [decide_eq_false h, decide_eq_false (by omega : ¬ j < k + 1)]; rfl
theorem mkG_step {k : Int} (hk : 0 ≤ k) (u : Int) (X : Nat → Int → Int) : (fun c j => bif decide (j = k) then wr (u + 1 * k) c else mkG u k X c j) = mkG u (k + 1) X := by
  funext c j
  unfold mkG
  by_cases e : j = k
  · subst e
    have h1 : j < j + 1 := by omega
    simp [hk, h1]
  · rw [decide_eq_false e]
    by_cases h : j < k
    · rw [decide_eq_true h, decide_eq_true (by omega : j < k + 1)]; rfl
    · rw [decide_eq_false h, decide_eq_false (by omega : ¬ j < k + 1)]; rfl
noncomputable def skM : Sk := ⟨[(0, .c (.sl 1 0 1 false)), (1, .c (.int .i64)), (5, .c (.int .i64))], [(1, ⟨true, false, .rows 1⟩)], 2⟩
noncomputable def skME : Sk := ⟨[(1, .c (.int .i64))], [(1, ⟨true, false, .rows 1⟩)], 2⟩
noncomputable def maN : Nat := Try.f26.ntmps
noncomputable def onM (b : Bool) (t : Nat) : Option Bool := bif Nat.beq t 9 then some b else none
noncomputable def goM (O : FOps) (b : Bool) (sk : Sk) (X : Nat → Int → Nat) (Y : Nat → Int → Int) (n u k : Int) : Option (Option XK × List LD × List Bool) :=
  goL (cxT O) maN ⟨onM b, fun _ => none⟩ (bodyOf Try.f26 2) 2 60 skM [] sk [.i n, .i u, .i k, .i n, .r (Row X Y)]
set_option maxRecDepth 100000 in
theorem ma_step (O : FOps) (X : Nat → Int → Nat) (Y : Nat → Int → Int) (n u k : Int) : goM O true skM X Y n u k =
    some (none, [.i n, .i (wr u 1), .i (IntKind.i64.wrap (k + 1)), .i n, .r (Row (fun c j => bif decide (j = k) then O.ofInt .f32 (wr u c) else X c j) (fun c j => bif decide (j = k) then wr u c else Y c j))],
      decide (k < n) :: (List.replicate 2 (decide (0 ≤ k ∧ k < n)) ++ [flatR (Row (fun c j => bif decide (j = k) then O.ofInt .f32 (wr u c) else X c j) (fun c j => bif decide (j = k) then wr u c else Y c j))])) := by kernel_rfl
set_option maxRecDepth 100000 in
theorem ma_end (O : FOps) (X : Nat → Int → Nat) (Y : Nat → Int → Int) (n u k : Int) : goM O false skME X Y n u k = some (some (.exit 0), [.i u, .i n, .r (Row X Y)], [!decide (k < n), flatR (Row X Y)]) := by kernel_rfl
theorem ma_loops (n u : Int) (X : Nat → Int → Nat) (Y : Nat → Int → Int) (hn : n ≤ 1048576) (hu : 0 ≤ u) (hu2 : u ≤ 50000000) : ∀ (m : Nat) (k : Int), 0 ≤ k → k + m = n →
    Loops (cxT fops) maN (fun _ => none) (bodyOf Try.f26 2) 2 60 skM [.i n, .i (u + 1 * k), .i k, .i n, .r (Row (mkF fops u k X) (mkG u k Y))] (.exit 0) skME [.i (u + 1 * n), .i n, .r (Row (mkF fops u n X) (mkG u n Y))] := by
  intro m
  induction m with
  | zero =>
    intro k hk hkn
    have e : k = n := by omega
    subst e
    exact .done (ts := onM false) (ρ := []) (ma_end fops (mkF fops u k X) (mkG u k Y) k (u + 1 * k) k) (AllT.cons (by simp) (AllT.cons (rowK_flat _ _ _) AllT.nil))
  | succ m ih =>
    intro k hk hkn
    have h1 := ma_step fops (mkF fops u k X) (mkG u k Y) n (u + 1 * k) k
    have hw : wr (u + 1 * k) 1 = u + 1 * (k + 1) := by rw [wr_eq (by omega) (by omega)]; omega
    rw [mkF_step hk, mkG_step hk, hw, wrap_succ hk (by omega)] at h1
    have hd : decide (k < n) = true := by simp; omega
    have hd2 : decide (0 ≤ k ∧ k < n) = true := by simp; omega
    exact .step (ts := onM true) (ρ := []) h1 (AllT.cons hd (AllT.app (AllT.rep hd2 _) (AllT.cons (rowK_flat _ _ _) AllT.nil))) (ih (k + 1) (by omega) (by omega))
def PreM (n u k n1 : Int) (row : Int → List SC) : Prop := k = 0 ∧ n1 = n ∧ 0 ≤ n ∧ n ≤ 1048576 ∧ 0 ≤ u ∧ u ≤ 50000000 ∧ Shape ts row
noncomputable def FM (O : FOps) : List LD → Option (XO × List Bool)
  | [.i n, .i u, .i k, .i n1, .r row] => some ([(.t, .exit 0, skME, [.i (u + 1 * n), .i n, .r (Row (mkF O u n (datF row)) (mkG u n (datG row)))])], [pB (PreM n u k n1 row)])
  | _ => none
noncomputable def LM (O : FOps) : List Ly → Top → Option Outs := orIter (cxT O) maN (bodyOf Try.f26 2) (loopL maN 2 60 skM [] (FM O))
set_option maxRecDepth 100000 in
theorem okM : CodeOK Try.prog maN (.loop (bodyOf Try.f26 2)) (LM fops) := by
  refine orIter_ok (l := []) trivial mixed 8 (loopL_ok (cx := cxT fops) (lp := fun _ => none) (fun ts => body_ok (l := []) trivial mixed 8 _ ts) fun p r hr hob => ?_)
  unfold FM at hr
  split at hr <;> cases hr
  rename_i n u k n1 row
  obtain ⟨e1, e2, h0, hm, hu, hu1, hs⟩ := pB_iff.1 hob.head
  refine ⟨_, _, _, rfl, ?_⟩
  have h1 := ma_loops n u (datF row) (datG row) hm hu hu1 n.toNat 0 (Int.le_refl _) (by omega)
  have hs1 : Row (datF row) (datG row) = row := hs.symm
  rw [mkF_zero, mkG_zero, hs1, Int.mul_zero, Int.add_zero] at h1
  rw [e1, e2]
  exact h1
/-- The contract of laws.markFloat32S. -/
noncomputable def maS (O : FOps) : CS := canS (inl (cxT O) Try.f26 ⟨fun _ => none, lpOf [(2, LM O)]⟩)
set_option maxRecDepth 100000 in
theorem cMa : CallOK Try.prog 26 (maS fops) := by
  have hb : Try.f26.body.isSome = true := by kernel_rfl
  obtain ⟨c, hc⟩ := Option.isSome_iff_exists.1 hb
  have h1 : (match Try.f26.body with | some c => onceB (loopsIn c) && (match loopAt 2 (loopsIn c) with | some _ => true | none => false) | none => false) = true := by kernel_rfl
  rw [hc] at h1
  simp only [Bool.and_eq_true] at h1
  exact (inlL_of (l := []) (ls := [(2, LM fops)]) trivial mixed 8 Try.func26 (by kernel_rfl) (fun _ => none) hc h1.1 ⟨⟨_, bodyOf_at hc h1.2, okM⟩, trivial⟩).can
/-! ### held -/
theorem int_num (k : FloatKind) (n : Int) : nanb k (fops.ofInt k n) = false := write_not_nan k.format (.number (n < 0) n.natAbs 0) rfl
noncomputable def skH : Sk := ⟨[(0, .c (.sl 1 0 1 false)), (1, .c (.int .i64)), (5, .c (.int .i64))], [(1, ⟨false, false, .rows 1⟩)], 2⟩
noncomputable def skHE : Sk := ⟨[(1, .c (.int .i64))], [], 2⟩
noncomputable def heN : Nat := Try.f27.ntmps
noncomputable def onH (b : Bool) (t : Nat) : Option Bool := bif Nat.beq t 9 then some b else bif Nat.beq t 18 then some false else none
noncomputable def goH (O : FOps) (b : Bool) (sk : Sk) (F : Nat → Int → Nat) (G : Nat → Int → Int) (n u k : Int) : Option (Option XK × List LD × List Bool) :=
  goL (cxT O) heN ⟨onH b, fun _ => none⟩ (bodyOf Try.f27 2) 2 60 skH [] sk [.i n, .i u, .i k, .i n, .r (Row F G)]
noncomputable def hob (O : FOps) (F : Nat → Int → Nat) (G : Nat → Int → Int) (n u k : Int) : List Bool := [decide (k < n), decide (0 ≤ k ∧ k < n), decide (0 ≤ k ∧ k < n), !O.cmp .neq .f32 (F 0 k) (O.ofInt .f32 (wr u 0)), flatR (Row F G)]
set_option maxRecDepth 100000 in
theorem he_step (O : FOps) (F : Nat → Int → Nat) (G : Nat → Int → Int) (n u k : Int) : goH O true skH F G n u k =
    some (none, [.i n, .i (wr u 1), .i (IntKind.i64.wrap (k + 1)), .i n, .r (Row F G)], hob O F G n u k) := by kernel_rfl
set_option maxRecDepth 100000 in
theorem he_end (O : FOps) (F : Nat → Int → Nat) (G : Nat → Int → Int) (n u k : Int) : goH O false skHE F G n u k = some (some (.exit 0), [.i u], [!decide (k < n)]) := by kernel_rfl
theorem he_loops (n u : Int) (X : Nat → Int → Nat) (Y : Nat → Int → Int) (hn : n ≤ 1048576) (hu : 0 ≤ u) (hu2 : u ≤ 50000000) : ∀ (m : Nat) (k : Int), 0 ≤ k → k + m = n →
    Loops (cxT fops) heN (fun _ => none) (bodyOf Try.f27 2) 2 60 skH [.i n, .i (u + 1 * k), .i k, .i n, .r (Row (mkF fops u n X) (mkG u n Y))] (.exit 0) skHE [.i (u + 1 * n)] := by
  intro m
  induction m with
  | zero =>
    intro k hk hkn
    have e : k = n := by omega
    subst e
    exact .done (ts := onH false) (ρ := []) (he_end fops (mkF fops u k X) (mkG u k Y) k (u + 1 * k) k) (AllT.cons (by simp) AllT.nil)
  | succ m ih =>
    intro k hk hkn
    have h1 := he_step fops (mkF fops u n X) (mkG u n Y) n (u + 1 * k) k
    have hw : wr (u + 1 * k) 1 = u + 1 * (k + 1) := by rw [wr_eq (by omega) (by omega)]; omega
    rw [hw, wrap_succ hk (by omega)] at h1
    have hd : decide (k < n) = true := by simp; omega
    have hd2 : decide (0 ≤ k ∧ k < n) = true := by simp; omega
    have hg : (decide (0 ≤ k) && decide (k < n)) = true := by simp; omega
    have eF : ∀ c, mkF fops u n X c k = fops.ofInt .f32 (wr (u + 1 * k) c) := fun c => by unfold mkF; rw [hg]; rfl
    have eG : ∀ c, mkG u n Y c k = wr (u + 1 * k) c := fun c => by unfold mkG; rw [hg]; rfl
    have ho : AllT (hob fops (mkF fops u n X) (mkG u n Y) n (u + 1 * k) k) := AllT.cons hd (AllT.cons hd2 (AllT.cons hd2 (AllT.cons (by rw [eF, cmp_neq_self, int_num]; rfl) (AllT.cons (rowK_flat _ _ _) AllT.nil))))
    exact .step (ts := onH true) (ρ := []) h1 ho (ih (k + 1) (by omega) (by omega))
/-- The rows are marked, from 'u' on. -/
def Marked (u n : Int) (row : Int → List SC) : Prop := ∃ X Y, row = Row (mkF fops u n X) (mkG u n Y)
def PreH (n u k n1 : Int) (row : Int → List SC) : Prop := k = 0 ∧ n1 = n ∧ 0 ≤ n ∧ n ≤ 1048576 ∧ 0 ≤ u ∧ u ≤ 50000000 ∧ Marked u n row
noncomputable def FH : List LD → Option (XO × List Bool)
  | [.i n, .i u, .i k, .i n1, .r row] => some ([(.t, .exit 0, skHE, [.i (u + 1 * n)])], [pB (PreH n u k n1 row)])
  | _ => none
noncomputable def LH (O : FOps) : List Ly → Top → Option Outs := orIter (cxT O) heN (bodyOf Try.f27 2) (loopL heN 2 60 skH [] FH)
set_option maxRecDepth 100000 in
theorem okH : CodeOK Try.prog heN (.loop (bodyOf Try.f27 2)) (LH fops) := by
  refine orIter_ok (l := []) trivial mixed 8 (loopL_ok (cx := cxT fops) (lp := fun _ => none) (fun ts => body_ok (l := []) trivial mixed 8 _ ts) fun p r hr hob => ?_)
  unfold FH at hr
  split at hr <;> cases hr
  rename_i n u k n1 row
  obtain ⟨e1, e2, h0, hm, hu, hu1, X, Y, hs⟩ := pB_iff.1 hob.head
  refine ⟨_, _, _, rfl, ?_⟩
  have h1 := he_loops n u X Y hm hu hu1 n.toNat 0 (Int.le_refl _) (by omega)
  rw [Int.mul_zero, Int.add_zero] at h1
  rw [e1, e2, hs]
  exact h1
/-- The contract of laws.heldFloat32S. -/
noncomputable def heS (O : FOps) : CS := roS (canS (inl (cxT O) Try.f27 ⟨fun _ => none, lpOf [(2, LH O)]⟩))
set_option maxRecDepth 100000 in
theorem cHe : CallOK Try.prog 27 (heS fops) := by
  have hb : Try.f27.body.isSome = true := by kernel_rfl
  obtain ⟨c, hc⟩ := Option.isSome_iff_exists.1 hb
  have h1 : (match Try.f27.body with | some c => onceB (loopsIn c) && (match loopAt 2 (loopsIn c) with | some _ => true | none => false) | none => false) = true := by kernel_rfl
  rw [hc] at h1
  simp only [Bool.and_eq_true] at h1
  exact (inlL_of (l := []) (ls := [(2, LH fops)]) trivial mixed 8 Try.func27 (by kernel_rfl) (fun _ => none) hc h1.1 ⟨⟨_, bodyOf_at hc h1.2, okH⟩, trivial⟩).can.ro
/-! ### told by hand -/
noncomputable section
theorem shape_flat {row : Int → List SC} (h : Shape ts row) : flatR row = true := by rw [h]; exact rowK_flat _ _ _
/-- The rows of a copy. -/
def cpR (n : Int) (row : Int → List SC) : Int → List SC := Row (clF n (datF row)) (clG n (datG row))
/-- The rows when they are marked. -/
def mkR (O : FOps) (u n : Int) (row : Int → List SC) : Int → List SC := Row (mkF O u n (datF row)) (mkG u n (datG row))
def okN (n N : Int) (row : Int → List SC) : Bool := pB (N = n ∧ 0 ≤ n ∧ n ≤ 1048576 ∧ Shape ts row)
def okM' (n u N : Int) (row : Int → List SC) : Bool := pB (N = n ∧ 0 ≤ n ∧ n ≤ 1048576 ∧ 0 ≤ u ∧ u ≤ 50000000 ∧ Shape ts row)
def okH' (n u N : Int) (row : Int → List SC) : Bool := pB (N = n ∧ 0 ≤ n ∧ n ≤ 1048576 ∧ 0 ≤ u ∧ u ≤ 50000000 ∧ Marked u n row)
def okE' (n N : Int) (row : Int → List SC) (m M : Int) (row' : Int → List SC) : Bool := !decide (n = m) || pB (N = n ∧ M = n ∧ 0 ≤ n ∧ n ≤ 1048576 ∧ Shape ts row ∧ Shape ts row')
def eqR (O : FOps) (n m : Int) (row row' : Int → List SC) : Bool := bif !decide (n = m) then false else bif !eqFrom (q O (datF row) (datG row) (datF row') (datG row')) 0 n.toNat then false else true
theorem eqR_self (n : Int) (row : Int → List SC) : eqR fops n n row row = true := by
  unfold eqR
  rw [decide_eq_true rfl, q_self]
  rfl
def Z0 : Int → List SC := Row (fun _ _ => 0) (fun _ _ => 0)
set_option maxRecDepth 100000 in
theorem to_run (O : FOps) (f w o : Bool) (n N : Int) (row : Int → List SC) : nwS (inl (cxT O) Try.f22 ⟨fun _ => none, lpOf [(3, LT O)]⟩) 2 [.c (.sl 1 0 1 (.s n) f)] [(1, ⟨w, o, .rows 1 N row⟩)] =
    some ⟨.c (.sl 2 0 1 (.s n) true), [(2, some ⟨true, true, .rows 1 n (cpR n row)⟩)], 60, [decide (n = n ∧ 0 ≤ n ∧ n ≤ 100000000), flatR row, flatR Z0, pB (PreT n n 0 N row n Z0)]⟩ := by kernel_rfl
def toH : CS := fun base args rd => match args with
  | [.c (.sl i o es (.s n) _)] => match rd with
    | [(j, ⟨_, _, .rows st N row⟩)] => match Nat.beq base 2 && (Nat.beq i 1 && (Nat.beq o 0 && (Nat.beq es 1 && (Nat.beq j 1 && Nat.beq st 1)))) with
      | true => some ⟨.c (.sl 2 0 1 (.s n) true), [(2, some ⟨true, true, .rows 1 n (cpR n row)⟩)], 60, [okN n N row]⟩
      | false => none
    | _ => none
  | _ => none
set_option maxRecDepth 100000 in
theorem cTo0 : CallOK Try.prog 22 (inl (cxT fops) Try.f22 ⟨fun _ => none, lpOf [(3, LT fops)]⟩) := by
  have hb : Try.f22.body.isSome = true := by kernel_rfl
  obtain ⟨c, hc⟩ := Option.isSome_iff_exists.1 hb
  have h1 : (match Try.f22.body with | some c => onceB (loopsIn c) && (match loopAt 3 (loopsIn c) with | some _ => true | none => false) | none => false) = true := by kernel_rfl
  rw [hc] at h1
  simp only [Bool.and_eq_true] at h1
  exact inlL_of (l := []) (ls := [(3, LT fops)]) trivial mixed 8 Try.func22 (by kernel_rfl) (fun _ => none) hc h1.1 ⟨⟨_, bodyOf_at hc h1.2, okT⟩, trivial⟩
def toC (O : FOps) : CS := orS (canS toH) (inl (cxT O) Try.f22 noH)
set_option maxRecDepth 100000 in
theorem cToC : CallOK Try.prog 22 (toC fops) :=
  (CallOK.hand (H := toH) cTo0.nw fun b args rd e h hob => by
    unfold toH at h
    split at h <;> try (cases h; done)
    rename_i i o es n f
    split at h <;> try (cases h; done)
    rename_i j w o' st N row
    split at h <;> cases h
    rename_i hc
    simp only [Bool.and_eq_true, beqN] at hc
    obtain ⟨rfl, rfl, rfl, rfl, rfl, rfl⟩ := hc
    obtain ⟨rfl, h0, hm, hs⟩ := pB_iff.1 hob.head
    exact ⟨_, to_run fops f w o' N N row, AllT.cons (by simp; omega) (AllT.cons (shape_flat hs) (AllT.cons (rowK_flat _ _ _) (AllT.cons (pB_iff.2 ⟨rfl, rfl, rfl, rfl, h0, hm, hs, rfl⟩) AllT.nil)))⟩).can.or
    (inlN_of (l := []) trivial mixed 8 Try.func22 (by kernel_rfl) (fun _ => none))
set_option maxRecDepth 100000 in
theorem ma_run (O : FOps) (f o : Bool) (n N : Int) (u : SI) (row : Int → List SC) : inl (cxT O) Try.f26 ⟨fun _ => none, lpOf [(2, LM O)]⟩ 2 [.c (.sl 1 0 1 (.s n) f), .c (.int .i64 u)] [(1, ⟨true, o, .rows 1 N row⟩)] =
    some ⟨.c (.int .i64 (.s (u.val + 1 * n))), [(1, some ⟨true, false, .rows 1 n (mkR O u.val n row)⟩)], 60, [flatR row, pB (PreM n u.val 0 N row)]⟩ := by kernel_rfl
def maH (O : FOps) : CS := fun base args rd => match args with
  | [.c (.sl i o es (.s n) _), .c (.int .i64 u)] => match rd with
    | [(j, ⟨true, _, .rows st N row⟩)] => match Nat.beq base 2 && (Nat.beq i 1 && (Nat.beq o 0 && (Nat.beq es 1 && (Nat.beq j 1 && Nat.beq st 1)))) with
      | true => some ⟨.c (.int .i64 (.s (u.val + 1 * n))), [(1, some ⟨true, false, .rows 1 n (mkR O u.val n row)⟩)], 60, [okM' n u.val N row]⟩
      | false => none
    | _ => none
  | _ => none
set_option maxRecDepth 100000 in
theorem cMa0 : CallOK Try.prog 26 (inl (cxT fops) Try.f26 ⟨fun _ => none, lpOf [(2, LM fops)]⟩) := by
  have hb : Try.f26.body.isSome = true := by kernel_rfl
  obtain ⟨c, hc⟩ := Option.isSome_iff_exists.1 hb
  have h1 : (match Try.f26.body with | some c => onceB (loopsIn c) && (match loopAt 2 (loopsIn c) with | some _ => true | none => false) | none => false) = true := by kernel_rfl
  rw [hc] at h1
  simp only [Bool.and_eq_true] at h1
  exact inlL_of (l := []) (ls := [(2, LM fops)]) trivial mixed 8 Try.func26 (by kernel_rfl) (fun _ => none) hc h1.1 ⟨⟨_, bodyOf_at hc h1.2, okM⟩, trivial⟩
def maC (O : FOps) : CS := orS (canS (maH O)) (inl (cxT O) Try.f26 noH)
set_option maxRecDepth 100000 in
theorem cMaC : CallOK Try.prog 26 (maC fops) :=
  (CallOK.hand (H := maH fops) cMa0 fun b args rd e h hob => by
    unfold maH at h
    split at h <;> try (cases h; done)
    rename_i i o es n f u
    split at h <;> try (cases h; done)
    rename_i j o' st N row
    split at h <;> cases h
    rename_i hc
    simp only [Bool.and_eq_true, beqN] at hc
    obtain ⟨rfl, rfl, rfl, rfl, rfl, rfl⟩ := hc
    obtain ⟨rfl, h0, hm, hu, hu1, hs⟩ := pB_iff.1 hob.head
    exact ⟨_, ma_run fops f o' N N u row, AllT.cons (shape_flat hs) (AllT.cons (pB_iff.2 ⟨rfl, rfl, h0, hm, hu, hu1, hs⟩) AllT.nil)⟩).can.or
    (inlN_of (l := []) trivial mixed 8 Try.func26 (by kernel_rfl) (fun _ => none))
set_option maxRecDepth 100000 in
theorem he_run (O : FOps) (f w o : Bool) (n N : Int) (u : SI) (row : Int → List SC) : roS (inl (cxT O) Try.f27 ⟨fun _ => none, lpOf [(2, LH O)]⟩) 2 [.c (.sl 1 0 1 (.s n) f), .c (.int .i64 u)] [(1, ⟨w, o, .rows 1 N row⟩)] =
    some ⟨.c (.int .i64 (.s (u.val + 1 * n))), [], 60, [flatR row, pB (PreH n u.val 0 N row)]⟩ := by kernel_rfl
def heH : CS := fun base args rd => match args with
  | [.c (.sl i o es (.s n) _), .c (.int .i64 u)] => match rd with
    | [(j, ⟨_, _, .rows st N row⟩)] => match Nat.beq base 2 && (Nat.beq i 1 && (Nat.beq o 0 && (Nat.beq es 1 && (Nat.beq j 1 && Nat.beq st 1)))) with
      | true => some ⟨.c (.int .i64 (.s (u.val + 1 * n))), [], 60, [okH' n u.val N row]⟩
      | false => none
    | _ => none
  | _ => none
theorem marked_shape {u n : Int} {row : Int → List SC} (h : Marked u n row) : Shape ts row := by
  obtain ⟨X, Y, rfl⟩ := h
  exact shape_row _ _
theorem mkR_marked (u n : Int) (row : Int → List SC) : Marked u n (mkR fops u n row) := ⟨_, _, rfl⟩
set_option maxRecDepth 100000 in
theorem cHe0 : CallOK Try.prog 27 (inl (cxT fops) Try.f27 ⟨fun _ => none, lpOf [(2, LH fops)]⟩) := by
  have hb : Try.f27.body.isSome = true := by kernel_rfl
  obtain ⟨c, hc⟩ := Option.isSome_iff_exists.1 hb
  have h1 : (match Try.f27.body with | some c => onceB (loopsIn c) && (match loopAt 2 (loopsIn c) with | some _ => true | none => false) | none => false) = true := by kernel_rfl
  rw [hc] at h1
  simp only [Bool.and_eq_true] at h1
  exact inlL_of (l := []) (ls := [(2, LH fops)]) trivial mixed 8 Try.func27 (by kernel_rfl) (fun _ => none) hc h1.1 ⟨⟨_, bodyOf_at hc h1.2, okH⟩, trivial⟩
def heC (O : FOps) : CS := orS (canS heH) (inl (cxT O) Try.f27 noH)
set_option maxRecDepth 100000 in
theorem cHeC : CallOK Try.prog 27 (heC fops) :=
  (CallOK.hand (H := heH) cHe0.ro fun b args rd e h hob => by
    unfold heH at h
    split at h <;> try (cases h; done)
    rename_i i o es n f u
    split at h <;> try (cases h; done)
    rename_i j w o' st N row
    split at h <;> cases h
    rename_i hc
    simp only [Bool.and_eq_true, beqN] at hc
    obtain ⟨rfl, rfl, rfl, rfl, rfl, rfl⟩ := hc
    obtain ⟨rfl, h0, hm, hu, hu1, hs⟩ := pB_iff.1 hob.head
    exact ⟨_, he_run fops f w o' N N u row, AllT.cons (shape_flat (marked_shape hs)) (AllT.cons (pB_iff.2 ⟨rfl, rfl, h0, hm, hu, hu1, hs⟩) AllT.nil)⟩).can.or
    (inlN_of (l := []) trivial mixed 8 Try.func27 (by kernel_rfl) (fun _ => none))
set_option maxRecDepth 100000 in
theorem eq_run (O : FOps) (f w o f' w' o' : Bool) (n N m M : Int) (row row' : Int → List SC) : roS (inl (cxQ O) Try.f24 ⟨fun _ => none, lpOf [(4, LE O)]⟩) 3 [.c (.sl 2 0 1 (.s n) f), .c (.sl 1 0 1 (.s m) f')] [(1, ⟨w', o', .rows 1 M row'⟩), (2, ⟨w, o, .rows 1 N row⟩)] =
    some ⟨.c (.bool (.s (eqR O n m row row'))), [], 60, gdB (!decide (n = m)) [flatR row', flatR row, pB (PreQ n m 0 N row M row')]⟩ := by kernel_rfl
def eqH (O : FOps) : CS := fun base args rd => match args with
  | [.c (.sl i o es (.s n) _), .c (.sl i' o' es' (.s m) _)] => match rd with
    | [(j', ⟨_, _, .rows st' M row'⟩), (j, ⟨_, _, .rows st N row⟩)] => match Nat.beq base 3 && (Nat.beq i 2 && (Nat.beq o 0 && (Nat.beq es 1 && (Nat.beq j 2 && (Nat.beq st 1 && (Nat.beq i' 1 && (Nat.beq o' 0 && (Nat.beq es' 1 && (Nat.beq j' 1 && Nat.beq st' 1))))))))) with
      | true => some ⟨.c (.bool (.s (eqR O n m row row'))), [], 60, [okE' n N row m M row']⟩
      | false => none
    | _ => none
  | _ => none
set_option maxRecDepth 100000 in
theorem cEq0 : CallOK Try.prog 24 (inl (cxQ fops) Try.f24 ⟨fun _ => none, lpOf [(4, LE fops)]⟩) := by
  have hb : Try.f24.body.isSome = true := by kernel_rfl
  obtain ⟨c, hc⟩ := Option.isSome_iff_exists.1 hb
  have h1 : (match Try.f24.body with | some c => onceB (loopsIn c) && (match loopAt 4 (loopsIn c) with | some _ => true | none => false) | none => false) = true := by kernel_rfl
  rw [hc] at h1
  simp only [Bool.and_eq_true] at h1
  exact inlL_of (l := LQ fops) (ls := [(4, LE fops)]) okLQ mixed 8 Try.func24 (by kernel_rfl) (fun _ => none) hc h1.1 ⟨⟨_, bodyOf_at hc h1.2, okE⟩, trivial⟩
def eqC (O : FOps) : CS := orS (canS (eqH O)) (inl (cxQ O) Try.f24 noH)
set_option maxRecDepth 100000 in
theorem cEqC : CallOK Try.prog 24 (eqC fops) :=
  (CallOK.hand (H := eqH fops) cEq0.ro fun b args rd e h hob => by
    unfold eqH at h
    split at h <;> try (cases h; done)
    rename_i i o es n f i' o' es' m f'
    split at h <;> try (cases h; done)
    rename_i j' w' p' st' M row' j w p st N row
    split at h <;> cases h
    rename_i hc
    simp only [Bool.and_eq_true, beqN] at hc
    obtain ⟨rfl, rfl, rfl, rfl, rfl, rfl, rfl, rfl, rfl, rfl, rfl⟩ := hc
    refine ⟨_, eq_run fops f w p f' w' p' n N m M row row', gdB_ok fun hg => ?_⟩
    have hnm : decide (n = m) = true := by simpa using hg
    have ho := hob.head
    unfold okE' at ho
    rw [hnm] at ho
    obtain ⟨e1, e2, h0, hm, hs, hs'⟩ := pB_iff.1 (show pB _ = true from ho)
    exact AllT.cons (shape_flat hs') (AllT.cons (shape_flat hs) (AllT.cons (pB_iff.2 ⟨(of_decide_eq_true hnm).symm, rfl, e1, e2, h0, hm, hs, hs'⟩) AllT.nil))).can.or
    (inlN_of (l := LQ fops) okLQ mixed 8 Try.func24 (by kernel_rfl) (fun _ => none))
end
end Go.Proofs.Ytaoeigofmfpamaa.SlFloat32
end

/- The smoke that comes into each flue: the rounds of impl.smokeInto. Nothing is assumed. -/
section
namespace Go.Proofs.Ytaoeigofmfpamaa.Smk
open Go
noncomputable section
noncomputable abbrev RF (F : Nat → Int → Nat) (G : Nat → Int → Int) : Int → List SC := SlFloat32.Row F G
noncomputable abbrev RC (F : Nat → Int → Nat) (G : Nat → Int → Int) : Int → List SC := SlFlue.Row F G
noncomputable def flK : List KC := [.flt .f32, .flt .f32, .flt .f32, .flt .f32, .int .i64]
/-! ### the inner loop -/
noncomputable def nI : Nat := Try.f59.ntmps
noncomputable def uIk : Sk := ⟨[(0, .c (.sl 3 0 5 false)), (1, .c (.sl 2 0 1 false)), (2, .c (.sl 1 0 1 false)), (3, .c (.flt .f32)), (9, .c (.sl 5 0 1 true)), (11, .c (.ptr 6 0)), (13, .c (.flt .f32)), (14, .c (.flt .f32)), (18, .c (.sl 3 0 5 false)), (19, .c (.int .i64)), (20, .c (.int .i64)), (28, .c (.sl 8 0 1 true)), (29, .c (.int .i64)), (30, .c (.int .i64))],
  [(1, ⟨false, false, .rows 1⟩), (2, ⟨false, false, .rows 1⟩), (3, ⟨false, false, .rows 5⟩), (5, ⟨true, true, .rows 1⟩), (6, ⟨true, true, .cells flK⟩), (8, ⟨true, true, .rows 1⟩)], 65⟩
noncomputable def uIe : Sk := ⟨[(0, .c (.sl 3 0 5 false)), (1, .c (.sl 2 0 1 false)), (2, .c (.sl 1 0 1 false)), (3, .c (.flt .f32)), (9, .c (.sl 5 0 1 true)), (11, .c (.ptr 6 0)), (13, .c (.flt .f32)), (14, .c (.flt .f32)), (18, .c (.sl 3 0 5 false)), (19, .c (.int .i64)), (20, .c (.int .i64))],
  [(1, ⟨false, false, .rows 1⟩), (2, ⟨false, false, .rows 1⟩), (3, ⟨false, false, .rows 5⟩), (5, ⟨true, true, .rows 1⟩), (6, ⟨true, true, .cells flK⟩)], 65⟩
/-- The data of the outer loop's state, but for the counter. -/
structure SmD where
  n : Int
  out : Nat
  Ff : Nat → Int → Nat
  Gf : Nat → Int → Int
  Fs : Nat → Int → Nat
  Gs : Nat → Int → Int
  Fc : Nat → Int → Nat
  Gc : Nat → Int → Int
noncomputable def sgD (x : SmD) (M : Int) (ro : Int → List SC) : List LD := [.i x.n, .r (RF x.Ff x.Gf), .i x.n, .r (RF x.Fs x.Gs), .i x.n, .r (RC x.Fc x.Gc), .i M, .r ro]
noncomputable def uID (x : SmD) (k M : Int) (ro : Int → List SC) (h a : Nat) (z0 z1 z2 z3 : Nat) (z4 : Int) (c j : Int) (g : Int → Int) : List LD :=
  [.i x.n, .i x.n, .i x.n, .f x.out, .i M, .f h, .f a, .i x.n, .i x.n, .i k, .i c, .i c, .i j] ++ sgD x M ro ++ [.f z0, .f z1, .f z2, .f z3, .i z4, .i c, .r (RowI g)]
noncomputable def uIE (x : SmD) (k M : Int) (ro : Int → List SC) (h a : Nat) (z0 z1 z2 z3 : Nat) (z4 : Int) : List LD :=
  [.i x.n, .i x.n, .i x.n, .f x.out, .i M, .f h, .f a, .i x.n, .i x.n, .i k] ++ sgD x M ro ++ [.f z0, .f z1, .f z2, .f z3, .i z4]
noncomputable def uIg (O : FOps) (hh : List (Nat × Bool)) (sk : Sk) (x : SmD) (k M : Int) (ro : Int → List SC) (h a : Nat) (z0 z1 z2 z3 : Nat) (z4 : Int) (c j : Int) (g : Int → Int) : Option (Option XK × List LD × List Bool) :=
  goL (cx0 O) nI ⟨hintS hh, fun _ => none⟩ (bodyOf Try.f59 8) 65 200 uIk [] sk (uID x k M ro h a z0 z1 z2 z3 z4 c j g)
noncomputable def fl5 (x : SmD) (ro : Int → List SC) : List Bool := [flatR (RF x.Ff x.Gf), flatR (RF x.Fs x.Gs), flatR (RC x.Fc x.Gc), flatR ro]
theorem fl5_ok (x : SmD) {ro : Int → List SC} (h : flatR ro = true) : AllT (fl5 x ro) := AllT.cons (rowK_flat _ _ _) (AllT.cons (rowK_flat _ _ _) (AllT.cons (rowK_flat _ _ _) (AllT.one' h)))
noncomputable def fY (O : FOps) (x : SmD) (i : Int) : Bool := O.cmp .gtr .f32 (x.Ff 0 i) 0
set_option maxRecDepth 100000 in
theorem uIY (O : FOps) (x : SmD) (k M : Int) (ro : Int → List SC) (h a : Nat) (z0 z1 z2 z3 : Nat) (z4 : Int) (c j : Int) (g : Int → Int) : uIg O [(31, true), (38, true)] uIk x k M ro h a z0 z1 z2 z3 z4 c j g =
    some (none, uID x k M ro (O.bin .add .f32 h (O.bin .mul .f32 (x.Ff 0 (g j)) (x.Fc 2 (g j)))) (O.bin .add .f32 a (x.Ff 0 (g j))) z0 z1 z2 z3 z4 c (IntKind.i64.wrap (j + 1)) g,
      [decide (j < c), inb c j, inb c j, inb x.n (g j), inb x.n (g j), fY O x (g j), inb x.n (g j), inb x.n (g j), inb x.n (g j), inb x.n (g j), inb x.n (g j), inb x.n (g j)] ++ fl5 x ro ++ [flatR (RowI g)]) := by kernel_rfl
set_option maxRecDepth 100000 in
theorem uIN (O : FOps) (x : SmD) (k M : Int) (ro : Int → List SC) (h a : Nat) (z0 z1 z2 z3 : Nat) (z4 : Int) (c j : Int) (g : Int → Int) : uIg O [(31, true), (38, false)] uIk x k M ro h a z0 z1 z2 z3 z4 c j g =
    some (none, uID x k M ro h a z0 z1 z2 z3 z4 c (IntKind.i64.wrap (j + 1)) g, [decide (j < c), inb c j, inb c j, inb x.n (g j), inb x.n (g j), !fY O x (g j)] ++ fl5 x ro ++ [flatR (RowI g)]) := by kernel_rfl
set_option maxRecDepth 100000 in
theorem uIX (O : FOps) (x : SmD) (k M : Int) (ro : Int → List SC) (h a : Nat) (z0 z1 z2 z3 : Nat) (z4 : Int) (c j : Int) (g : Int → Int) : uIg O [(31, false)] uIe x k M ro h a z0 z1 z2 z3 z4 c j g = some (some (.exit 3), uIE x k M ro h a z0 z1 z2 z3 z4, [!decide (j < c)] ++ fl5 x ro) := by kernel_rfl
theorem uIl (x : SmD) (k M : Int) {ro : Int → List SC} (hro : flatR ro = true) (z0 z1 z2 z3 : Nat) (z4 : Int) {c : Int} (hc : c ≤ 900000) (g : Int → Int) (hg : ∀ j, 0 ≤ j → j < c → 0 ≤ g j ∧ g j < x.n) : ∀ (m : Nat) (j : Int) (h a : Nat), 0 ≤ j → j + m = c →
    Loops (cx0 fops) nI (fun _ => none) (bodyOf Try.f59 8) 65 200 uIk (uID x k M ro h a z0 z1 z2 z3 z4 c j g) (.exit 3) uIe (uIE x k M ro (sm fops (x.Ff 0) (x.Fc 2) g m j h a).1 (sm fops (x.Ff 0) (x.Fc 2) g m j h a).2 z0 z1 z2 z3 z4) := by
  intro m
  induction m with
  | zero =>
    intro j h a hj hjc
    have e : j = c := by omega
    subst e
    exact .done (ρ := []) (uIX fops x k M ro h a z0 z1 z2 z3 z4 j j g) (AllT.app (AllT.one' (by simp)) (fl5_ok x hro))
  | succ m ih =>
    intro j h a hj hjc
    have hlt : j < c := by omega
    obtain ⟨g0, g1⟩ := hg j hj hlt
    have b1 := inb_ok hj hlt
    have b2 := inb_ok g0 g1
    have hS : sm fops (x.Ff 0) (x.Fc 2) g (m + 1) j h a = bif fY fops x (g j) then sm fops (x.Ff 0) (x.Fc 2) g m (j + 1) (fops.bin .add .f32 h (fops.bin .mul .f32 (x.Ff 0 (g j)) (x.Fc 2 (g j)))) (fops.bin .add .f32 a (x.Ff 0 (g j))) else sm fops (x.Ff 0) (x.Fc 2) g m (j + 1) h a := rfl
    have hfl := AllT.app (fl5_ok x hro) (AllT.one' (rowK_flat tsI (fun _ _ => 0) (fun _ j => g j)))
    rw [hS]
    cases hy : fY fops x (g j) with
    | true =>
      have h1 := uIY fops x k M ro h a z0 z1 z2 z3 z4 c j g
      rw [wrap_succ hj (by omega)] at h1
      refine .step (ρ := []) h1 ?_ (ih (j + 1) _ _ (by omega) (by omega))
      rw [b1, b2, hy, List.append_assoc]
      exact AllT.app (fun b hb => by simpa using (show b ∈ [decide (j < c), true, true, true, true, true, true, true, true, true, true, true] → b = true from by simp [hlt]) hb) hfl
    | false =>
      have h1 := uIN fops x k M ro h a z0 z1 z2 z3 z4 c j g
      rw [wrap_succ hj (by omega)] at h1
      refine .step (ρ := []) h1 ?_ (ih (j + 1) _ _ (by omega) (by omega))
      rw [b1, b2, hy, List.append_assoc]
      exact AllT.app (fun b hb => by simpa using (show b ∈ [decide (j < c), true, true, true, true, !false] → b = true from by simp [hlt]) hb) hfl
def P5 (n N1 N2 N3 n1 n2 n3 : Int) (rf rs rc : Int → List SC) : Prop := (N1 = n ∧ N2 = n ∧ N3 = n ∧ n1 = n ∧ n2 = n ∧ n3 = n) ∧ 0 ≤ n ∧ n ≤ 900000 ∧ Shape SlFloat32.ts rf ∧ Shape SlFloat32.ts rs ∧ Shape SlFlue.ts rc
def PIn (n N1 N2 N3 n1 n2 n3 : Int) (rf rs rc : Int → List SC) (n5 M' M c1 c2 c j : Int) (ro rg : Int → List SC) : Prop :=
  P5 n N1 N2 N3 n1 n2 n3 rf rs rc ∧ n5 = n ∧ M' = M ∧ c1 = c ∧ c2 = c ∧ j = 0 ∧ 0 ≤ c ∧ c ≤ 900000 ∧ flatR ro = true ∧ Shape tsI rg ∧ ∀ j, 0 ≤ j → j < c → 0 ≤ datG rg 0 j ∧ datG rg 0 j < n
/-- The state's data, from its rows. -/
noncomputable def mkS (n : Int) (out : Nat) (rf rs rc : Int → List SC) : SmD := ⟨n, out, datF rf, datG rf, datF rs, datG rs, datF rc, datG rc⟩
noncomputable def smR (O : FOps) (rf rc : Int → List SC) (rg : Int → List SC) (c : Int) (h a : Nat) : Nat × Nat := sm O (datF rf 0) (datF rc 2) (datG rg 0) c.toNat 0 h a
noncomputable def uIF (O : FOps) : List LD → Option (XO × List Bool)
  | [.i n1, .i n2, .i n3, .f out, .i M', .f h, .f a, .i n, .i n5, .i k, .i c1, .i c2, .i j, .i N1, .r rf, .i N2, .r rs, .i N3, .r rc, .i M, .r ro, .f z0, .f z1, .f z2, .f z3, .i z4, .i c, .r rg] =>
    some ([(.t, .exit 3, uIe, [.i n, .i n, .i n, .f out, .i M, .f (smR O rf rc rg c h a).1, .f (smR O rf rc rg c h a).2, .i n, .i n, .i k, .i n, .r rf, .i n, .r rs, .i n, .r rc, .i M, .r ro, .f z0, .f z1, .f z2, .f z3, .i z4])],
      [pB (PIn n N1 N2 N3 n1 n2 n3 rf rs rc n5 M' M c1 c2 c j ro rg)])
  | _ => none
noncomputable def uIL (O : FOps) : List Ly → Top → Option Outs := loopL nI 65 200 uIk [] (uIF O)
theorem uIO : CodeOK Try.prog nI (.loop (bodyOf Try.f59 8)) (uIL fops) := loopL_ok (cx := cx0 fops) (lp := fun _ => none) (fun ts => body_ok (l := []) trivial mixed 8 _ ts) fun p r hr hob => by
  unfold uIF at hr
  split at hr <;> cases hr
  rename_i n1 n2 n3 out M' h a n n5 k c1 c2 j N1 rf N2 rs N3 rc M ro z0 z1 z2 z3 z4 c rg
  obtain ⟨⟨⟨e1, e2, e3, e4, e5, e6⟩, _, _, s1, s2, s3⟩, e7, e8, e9, e10, e11, hc0, hc1, hro, s4, hg⟩ := pB_iff.1 hob.head
  have hl := uIl (mkS n out rf rs rc) k M hro z0 z1 z2 z3 z4 hc1 (datG rg 0) (fun j a b => hg j a b) c.toNat 0 h a (Int.le_refl _) (by omega)
  have t1 : RF (datF rf) (datG rf) = rf := s1.symm
  have t2 : RF (datF rs) (datG rs) = rs := s2.symm
  have t3 : RC (datF rc) (datG rc) = rc := s3.symm
  have t4 : RowI (datG rg 0) = rg := by
    have h5 : rg = rowK tsI (datF rg) (datG rg) := s4
    have h6 : rowK tsI (datF rg) (datG rg) = RowI (datG rg 0) := rfl
    rw [← h6]; exact h5.symm
  unfold uID uIE sgD mkS at hl
  simp only [t1, t2, t3, t4] at hl
  rw [e1, e2, e3, e4, e5, e6, e7, e8, e9, e10, e11]
  exact ⟨_, _, _, rfl, hl⟩
end
end Go.Proofs.Ytaoeigofmfpamaa.Smk
end

/- The smoke that comes into each flue: impl.smokeInto. Nothing is assumed. -/
section
namespace Go.Proofs.Ytaoeigofmfpamaa.Smk
open Go
noncomputable section
noncomputable def LB (O : FOps) : List (Nat × CS) := [(89, canS brH), (83, canS brH)]
set_option maxRecDepth 100000 in
theorem okLB : AllOK Try.prog (LB fops) := ⟨cBrI, cBrS, trivial⟩
noncomputable def cxB (O : FOps) : Cx := ⟨Try.prog, O, orcN Try.prog O (LB O) 8⟩
noncomputable def oIk : Sk := ⟨[(0, .c (.sl 3 0 5 false)), (1, .c (.sl 2 0 1 false)), (2, .c (.sl 1 0 1 false)), (3, .c (.flt .f32)), (9, .c (.sl 5 0 1 true)), (18, .c (.sl 3 0 5 false)), (19, .c (.int .i64)), (20, .c (.int .i64))],
  [(1, ⟨false, false, .rows 1⟩), (2, ⟨false, false, .rows 1⟩), (3, ⟨false, false, .rows 5⟩), (5, ⟨true, true, .rows 1⟩)], 6⟩
noncomputable def oIe : Sk := ⟨[(9, .c (.sl 5 0 1 true))], [(1, ⟨false, false, .rows 1⟩), (2, ⟨false, false, .rows 1⟩), (3, ⟨false, false, .rows 5⟩), (5, ⟨true, true, .rows 1⟩)], 6⟩
noncomputable def oID (x : SmD) (k M : Int) (ro : Int → List SC) : List LD := [.i x.n, .i x.n, .i x.n, .f x.out, .i M, .i x.n, .i x.n, .i k] ++ sgD x M ro
noncomputable def oIE (x : SmD) (M : Int) (ro : Int → List SC) : List LD := [.i M] ++ sgD x M ro
noncomputable def oIg (O : FOps) (hh : List (Nat × Bool)) (ρ : List (Nat × Nat)) (sk : Sk) (x : SmD) (k M : Int) (ro : Int → List SC) : Option (Option XK × List LD × List Bool) :=
  goL (cxB O) nI ⟨hintS hh, lpOf [(8, uIL O)]⟩ (bodyOf Try.f59 3) 5 300 oIk ρ sk (oID x k M ro)
/-! ### the rounds -/
noncomputable def hdO (x : SmD) (k : Int) : List Bool := [decide (k < x.n), inb x.n k, inb x.n k, flatR (RC x.Fc x.Gc), flatR (RowI (ix (x.Gc 4) x.n k)), okB x.n x.n (RC x.Fc x.Gc), inb x.n k, inb x.n k]
noncomputable def ltO (O : FOps) (x : SmD) (k : Int) : Bool := O.cmp .lss .f32 (x.Ff 0 k) 0
noncomputable def noO (x : SmD) (k : Int) : Bool := decide (cnt (x.Gc 4) x.n k = 0)
noncomputable def tO (O : FOps) (x : SmD) (k : Int) : Nat × Nat := smT O (x.Gc 4) (x.Ff 0) (x.Fc 2) x.n k
noncomputable def gtO (O : FOps) (x : SmD) (k : Int) : Bool := O.cmp .gtr .f32 (tO O x k).2 0
noncomputable def svO (O : FOps) (x : SmD) (k : Int) : Nat := sv O (x.Gc 4) (x.Ff 0) (x.Fc 2) (x.Fs 0) x.out x.n k
noncomputable def mO (M : Int) : Bool := decide (0 ≤ M ∧ M ≤ M ∧ M ≤ 999999)
noncomputable def inO (x : SmD) (k M : Int) (ro : Int → List SC) : List Bool := fl5 x ro ++ [flatR (RowI (ix (x.Gc 4) x.n k)), pB (PIn x.n x.n x.n x.n x.n x.n x.n (RF x.Ff x.Gf) (RF x.Fs x.Gs) (RC x.Fc x.Gc) x.n M M (cnt (x.Gc 4) x.n k) (cnt (x.Gc 4) x.n k) (cnt (x.Gc 4) x.n k) 0 ro (RowI (ix (x.Gc 4) x.n k)))]
set_option maxRecDepth 100000 in
theorem oIA (O : FOps) (x : SmD) (k M : Int) (ro : Int → List SC) : oIg O [(21, true), (71, true)] [(66, 5)] oIk x k M ro = some (none, oID x (IntKind.i64.wrap (k + 1)) (M + 1) (apX ro M x.out), hdO x k ++ [ltO O x k, mO M] ++ fl5 x (apX ro M x.out)) := by kernel_rfl
set_option maxRecDepth 100000 in
theorem oIB (O : FOps) (x : SmD) (k M : Int) (ro : Int → List SC) : oIg O [(21, true), (71, false), (81, true)] [(66, 5)] oIk x k M ro = some (none, oID x (IntKind.i64.wrap (k + 1)) (M + 1) (apX ro M (x.Fs 0 k)), hdO x k ++ [!ltO O x k, noO x k, inb x.n k, inb x.n k, mO M] ++ fl5 x (apX ro M (x.Fs 0 k))) := by kernel_rfl
set_option maxRecDepth 100000 in
theorem oIC (O : FOps) (x : SmD) (k M : Int) (ro : Int → List SC) : oIg O [(21, true), (71, false), (81, false), (59, true)] [(201, 5)] oIk x k M ro = some (none, oID x (IntKind.i64.wrap (k + 1)) (M + 1) (apX ro M (O.bin .quo .f32 (tO O x k).1 (tO O x k).2)), hdO x k ++ [!ltO O x k, !noO x k] ++ inO x k M ro ++ [gtO O x k, mO M] ++ fl5 x (apX ro M (O.bin .quo .f32 (tO O x k).1 (tO O x k).2))) := by kernel_rfl
set_option maxRecDepth 100000 in
theorem oIDd (O : FOps) (x : SmD) (k M : Int) (ro : Int → List SC) : oIg O [(21, true), (71, false), (81, false), (59, false)] [(201, 5)] oIk x k M ro = some (none, oID x (IntKind.i64.wrap (k + 1)) (M + 1) (apX ro M (x.Fc 2 k)), hdO x k ++ [!ltO O x k, !noO x k] ++ inO x k M ro ++ [!gtO O x k, mO M] ++ fl5 x (apX ro M (x.Fc 2 k))) := by kernel_rfl
set_option maxRecDepth 100000 in
theorem oIX (O : FOps) (x : SmD) (k M : Int) (ro : Int → List SC) : oIg O [(21, false)] [] oIe x k M ro = some (some (.exit 0), oIE x M ro, [!decide (k < x.n)] ++ fl5 x ro) := by kernel_rfl
theorem apX_flat {ro : Int → List SC} (h : flatR ro = true) (M : Int) (v : Nat) : flatR (apX ro M v) = true :=
  @decide_eq_true _ (Classical.propDecidable _) fun j => by
    unfold apX
    cases decide (j < M) with
    | true => exact flatR_ok h j
    | false => rfl
section
variable {x : SmD} {k M : Int} {ro : Int → List SC} (hn : x.n ≤ 900000) (h0 : 0 ≤ k) (h1 : k < x.n) (hm0 : 0 ≤ M) (hm1 : M ≤ 900000) (hro : flatR ro = true)
include hn h0 h1
theorem hdO_ok : AllT (hdO x k) := by
  have b := inb_ok h0 h1
  have fc : flatR (RC x.Fc x.Gc) = true := rowK_flat _ _ _
  exact AllT.cons (decide_eq_true h1) (AllT.cons b (AllT.cons b (AllT.cons fc (AllT.cons (rowK_flat _ _ _) (AllT.cons (pB_iff.2 ⟨rfl, by omega, hn, SlFlue.shape_row _ _⟩) (AllT.cons b (AllT.one' b)))))))
include hro in
theorem inO_ok : AllT (inO x k M ro) := by
  have hc := lst_ok (g := x.Gc 4) (n := x.n) (by omega) k
  refine AllT.app (fl5_ok x hro) (AllT.cons (rowK_flat _ _ _) (AllT.one' (pB_iff.2 ⟨⟨⟨rfl, rfl, rfl, rfl, rfl, rfl⟩, by omega, hn, SlFloat32.shape_row _ _, SlFloat32.shape_row _ _, SlFlue.shape_row _ _⟩, rfl, rfl, rfl, rfl, rfl, hc.1, by omega, hro, rfl, fun j a b => ?_⟩)))
  exact (ix_ok (g := x.Gc 4) (n := x.n) (by omega) k a b).2
end
theorem mO_ok {M : Int} (h0 : 0 ≤ M) (h1 : M ≤ 900000) : mO M = true := by unfold mO; simp; omega
theorem oIl (x : SmD) (hn0 : 0 ≤ x.n) (hn : x.n ≤ 900000) : ∀ (m k : Nat), (k : Int) + m = x.n →
    LoopsX Try.prog nI (bodyOf Try.f59 3) 5 300 oIk (oID x k k (orow (svO fops x) k)) (.exit 0) oIe (oIE x x.n (orow (svO fops x) x.n.toNat)) := by
  have hx : ∀ ts, CodeOK Try.prog nI (bodyOf Try.f59 3) (sx (cxB fops) nI ⟨ts, lpOf [(8, uIL fops)]⟩ (bodyOf Try.f59 3)) := fun ts => by
    have h1 : onceB (loopsIn (bodyOf Try.f59 3)) = true := by kernel_rfl
    have h2 : loopAt 8 (loopsIn (bodyOf Try.f59 3)) = some (bodyOf Try.f59 8) := by kernel_rfl
    exact bodyL_ok (l := LB fops) okLB mixed 8 ts h1 ⟨⟨_, h2, uIO⟩, trivial⟩
  intro m
  induction m with
  | zero =>
    intro k hkn
    have e : x.n.toNat = k := by omega
    have e2 : x.n = (k : Int) := by omega
    rw [e]
    have h := oIX fops x k k (orow (svO fops x) k)
    rw [show oIE x (k : Int) (orow (svO fops x) k) = oIE x x.n (orow (svO fops x) k) by rw [← e2]] at h
    exact .done (ρ := []) (hx _) h (AllT.app (AllT.one' (by simp; omega)) (fl5_ok x (orow_flat _ k)))
  | succ m ih =>
    intro k hkn
    have hlt : (k : Int) < x.n := by omega
    have hk0 : (0 : Int) ≤ k := by omega
    have hd := hdO_ok hn hk0 hlt
    have hro := orow_flat (svO fops x) k
    have hmo := mO_ok (M := (k : Int)) hk0 (by omega)
    have b := inb_ok hk0 hlt
    have i1 := ih (k + 1) (by omega)
    have hw : IntKind.i64.wrap ((k : Int) + 1) = ((k + 1 : Nat) : Int) := by rw [wrap_succ hk0 (by omega)]; omega
    have hM : ((k : Int) + 1) = ((k + 1 : Nat) : Int) := by omega
    have hv : ∀ v, svO fops x k = v → orow (svO fops x) (k + 1) = apX (orow (svO fops x) k) k v := fun v e => by
      show apX (orow (svO fops x) k) k (svO fops x k) = _
      rw [e]
    have hfl := fun v => fl5_ok x (apX_flat hro k v)
    cases hl : ltO fops x k with
    | true =>
      have h := oIA fops x k k (orow (svO fops x) k)
      have e : svO fops x k = x.out := by
        unfold svO sv
        rw [show fops.cmp .lss .f32 (x.Ff 0 k) 0 = true from hl]; rfl
      rw [hw, hM, ← hv _ e] at h
      exact .step (hx _) h (AllT.app (AllT.app hd (AllT.cons hl (AllT.one' hmo))) (by rw [hv _ e]; exact hfl _)) i1
    | false =>
      have hl' : fops.cmp .lss .f32 (x.Ff 0 k) 0 = false := hl
      cases hc : noO x k with
      | true =>
        have h := oIB fops x k k (orow (svO fops x) k)
        have e : svO fops x k = x.Fs 0 k := by
          unfold svO sv
          rw [hl', show decide (cnt (x.Gc 4) x.n k = 0) = true from hc]; rfl
        rw [hw, hM, ← hv _ e] at h
        exact .step (hx _) h (AllT.app (AllT.app hd (AllT.cons (by rw [hl]; rfl) (AllT.cons hc (AllT.cons b (AllT.cons b (AllT.one' hmo)))))) (by rw [hv _ e]; exact hfl _)) i1
      | false =>
        have hc' : decide (cnt (x.Gc 4) x.n k = 0) = false := hc
        have hi := inO_ok (M := (k : Int)) hn hk0 hlt hro
        cases hg : gtO fops x k with
        | true =>
          have h := oIC fops x k k (orow (svO fops x) k)
          have e : svO fops x k = fops.bin .quo .f32 (tO fops x k).1 (tO fops x k).2 := by
            unfold svO sv
            rw [hl', hc', show fops.cmp .gtr .f32 (smT fops (x.Gc 4) (x.Ff 0) (x.Fc 2) x.n k).2 0 = true from hg]; rfl
          rw [hw, hM, ← hv _ e] at h
          exact .step (hx _) h (AllT.app (AllT.app (AllT.app (AllT.app hd (AllT.cons (by rw [hl]; rfl) (AllT.one' (by rw [hc]; rfl)))) hi) (AllT.cons hg (AllT.one' hmo))) (by rw [hv _ e]; exact hfl _)) i1
        | false =>
          have h := oIDd fops x k k (orow (svO fops x) k)
          have e : svO fops x k = x.Fc 2 k := by
            unfold svO sv
            rw [hl', hc', show fops.cmp .gtr .f32 (smT fops (x.Gc 4) (x.Ff 0) (x.Fc 2) x.n k).2 0 = false from hg]; rfl
          rw [hw, hM, ← hv _ e] at h
          exact .step (hx _) h (AllT.app (AllT.app (AllT.app (AllT.app hd (AllT.cons (by rw [hl]; rfl) (AllT.one' (by rw [hc]; rfl)))) hi) (AllT.cons (by rw [hg]; rfl) (AllT.one' hmo))) (by rw [hv _ e]; exact hfl _)) i1
end
end Go.Proofs.Ytaoeigofmfpamaa.Smk
end

/- The smoke that comes into each flue: spec.l03Into. Nothing is assumed. -/
section
namespace Go.Proofs.Ytaoeigofmfpamaa.Smk
open Go
noncomputable section
noncomputable def nS : Nat := Try.f55.ntmps
noncomputable def uSk : Sk := ⟨[(0, .c (.sl 3 0 5 false)), (1, .c (.sl 2 0 1 false)), (2, .c (.sl 1 0 1 false)), (3, .c (.flt .f32)), (9, .c (.sl 5 0 1 true)), (10, .c (.int .i64)), (11, .c (.sl 8 0 1 true)), (12, .c (.flt .f32)), (13, .c (.flt .f32)), (14, .c (.int .i64))],
  [(1, ⟨false, false, .rows 1⟩), (2, ⟨false, false, .rows 1⟩), (3, ⟨false, false, .rows 5⟩), (5, ⟨true, true, .rows 1⟩), (8, ⟨true, true, .rows 1⟩)], 65⟩
noncomputable def uSe : Sk := ⟨[(0, .c (.sl 3 0 5 false)), (1, .c (.sl 2 0 1 false)), (2, .c (.sl 1 0 1 false)), (3, .c (.flt .f32)), (9, .c (.sl 5 0 1 true)), (10, .c (.int .i64)), (12, .c (.flt .f32)), (13, .c (.flt .f32))],
  [(1, ⟨false, false, .rows 1⟩), (2, ⟨false, false, .rows 1⟩), (3, ⟨false, false, .rows 5⟩), (5, ⟨true, true, .rows 1⟩)], 65⟩
noncomputable def uSD (x : SmD) (k M : Int) (ro : Int → List SC) (h a : Nat) (c j : Int) (g : Int → Int) : List LD :=
  [.i x.n, .i x.n, .i x.n, .f x.out, .i M, .i k, .i c, .f h, .f a, .i j] ++ sgD x M ro ++ [.i c, .r (RowI g)]
noncomputable def uSE (x : SmD) (k M : Int) (ro : Int → List SC) (h a : Nat) : List LD := [.i x.n, .i x.n, .i x.n, .f x.out, .i M, .i k, .f h, .f a] ++ sgD x M ro
noncomputable def uSg (O : FOps) (hh : List (Nat × Bool)) (sk : Sk) (x : SmD) (k M : Int) (ro : Int → List SC) (h a : Nat) (c j : Int) (g : Int → Int) : Option (Option XK × List LD × List Bool) :=
  goL (cx0 O) nS ⟨hintS hh, fun _ => none⟩ (bodyOf Try.f55 11) 65 200 uSk [] sk (uSD x k M ro h a c j g)
set_option maxRecDepth 100000 in
theorem uSY (O : FOps) (x : SmD) (k M : Int) (ro : Int → List SC) (h a : Nat) (c j : Int) (g : Int → Int) : uSg O [(36, true), (47, true)] uSk x k M ro h a c j g =
    some (none, uSD x k M ro (O.bin .add .f32 h (O.bin .mul .f32 (x.Ff 0 (g j)) (x.Fc 2 (g j)))) (O.bin .add .f32 a (x.Ff 0 (g j))) c (IntKind.i64.wrap (j + 1)) g,
      [decide (j < c), inb c j, inb c j, inb x.n (g j), inb x.n (g j), fY O x (g j), inb c j, inb c j, inb x.n (g j), inb x.n (g j)] ++ fl5 x ro ++ [flatR (RowI g)]) := by kernel_rfl
set_option maxRecDepth 100000 in
theorem uSN (O : FOps) (x : SmD) (k M : Int) (ro : Int → List SC) (h a : Nat) (c j : Int) (g : Int → Int) : uSg O [(36, true), (47, false)] uSk x k M ro h a c j g =
    some (none, uSD x k M ro h a c (IntKind.i64.wrap (j + 1)) g, [decide (j < c), inb c j, inb c j, inb x.n (g j), inb x.n (g j), !fY O x (g j)] ++ fl5 x ro ++ [flatR (RowI g)]) := by kernel_rfl
set_option maxRecDepth 100000 in
theorem uSX (O : FOps) (x : SmD) (k M : Int) (ro : Int → List SC) (h a : Nat) (c j : Int) (g : Int → Int) : uSg O [(36, false)] uSe x k M ro h a c j g = some (some (.exit 3), uSE x k M ro h a, [!decide (j < c)] ++ fl5 x ro) := by kernel_rfl
theorem uSl (x : SmD) (k M : Int) {ro : Int → List SC} (hro : flatR ro = true) {c : Int} (hc : c ≤ 900000) (g : Int → Int) (hg : ∀ j, 0 ≤ j → j < c → 0 ≤ g j ∧ g j < x.n) : ∀ (m : Nat) (j : Int) (h a : Nat), 0 ≤ j → j + m = c →
    Loops (cx0 fops) nS (fun _ => none) (bodyOf Try.f55 11) 65 200 uSk (uSD x k M ro h a c j g) (.exit 3) uSe (uSE x k M ro (sm fops (x.Ff 0) (x.Fc 2) g m j h a).1 (sm fops (x.Ff 0) (x.Fc 2) g m j h a).2) := by
  intro m
  induction m with
  | zero =>
    intro j h a hj hjc
    have e : j = c := by omega
    subst e
    exact .done (ρ := []) (uSX fops x k M ro h a j j g) (AllT.app (AllT.one' (by simp)) (fl5_ok x hro))
  | succ m ih =>
    intro j h a hj hjc
    have hlt : j < c := by omega
    obtain ⟨g0, g1⟩ := hg j hj hlt
    have b1 := inb_ok hj hlt
    have b2 := inb_ok g0 g1
    have hS : sm fops (x.Ff 0) (x.Fc 2) g (m + 1) j h a = bif fY fops x (g j) then sm fops (x.Ff 0) (x.Fc 2) g m (j + 1) (fops.bin .add .f32 h (fops.bin .mul .f32 (x.Ff 0 (g j)) (x.Fc 2 (g j)))) (fops.bin .add .f32 a (x.Ff 0 (g j))) else sm fops (x.Ff 0) (x.Fc 2) g m (j + 1) h a := rfl
    have hfl := AllT.app (fl5_ok x hro) (AllT.one' (rowK_flat tsI (fun _ _ => 0) (fun _ j => g j)))
    rw [hS]
    cases hy : fY fops x (g j) with
    | true =>
      have h1 := uSY fops x k M ro h a c j g
      rw [wrap_succ hj (by omega)] at h1
      refine .step (ρ := []) h1 ?_ (ih (j + 1) _ _ (by omega) (by omega))
      rw [b1, b2, hy, List.append_assoc]
      exact AllT.app (fun b hb => by simpa using (show b ∈ [decide (j < c), true, true, true, true, true, true, true, true, true] → b = true from by simp [hlt]) hb) hfl
    | false =>
      have h1 := uSN fops x k M ro h a c j g
      rw [wrap_succ hj (by omega)] at h1
      refine .step (ρ := []) h1 ?_ (ih (j + 1) _ _ (by omega) (by omega))
      rw [b1, b2, hy, List.append_assoc]
      exact AllT.app (fun b hb => by simpa using (show b ∈ [decide (j < c), true, true, true, true, !false] → b = true from by simp [hlt]) hb) hfl
end
end Go.Proofs.Ytaoeigofmfpamaa.Smk
end

/- The smoke that comes into each flue: spec.l03Into's inner loop, told. Nothing is assumed. -/
section
namespace Go.Proofs.Ytaoeigofmfpamaa.Smk
open Go
noncomputable section
def PSn (n N1 N2 N3 n1 n2 n3 : Int) (rf rs rc : Int → List SC) (M' M c1 c j : Int) (ro rg : Int → List SC) : Prop :=
  P5 n N1 N2 N3 n1 n2 n3 rf rs rc ∧ M' = M ∧ c1 = c ∧ j = 0 ∧ 0 ≤ c ∧ c ≤ 900000 ∧ flatR ro = true ∧ Shape tsI rg ∧ ∀ j, 0 ≤ j → j < c → 0 ≤ datG rg 0 j ∧ datG rg 0 j < n
noncomputable def uSF (O : FOps) : List LD → Option (XO × List Bool)
  | [.i n1, .i n2, .i n3, .f out, .i M', .i k, .i c1, .f h, .f a, .i j, .i N1, .r rf, .i N2, .r rs, .i n, .r rc, .i M, .r ro, .i c, .r rg] =>
    some ([(.t, .exit 3, uSe, [.i n, .i n, .i n, .f out, .i M, .i k, .f (smR O rf rc rg c h a).1, .f (smR O rf rc rg c h a).2, .i n, .r rf, .i n, .r rs, .i n, .r rc, .i M, .r ro])],
      [pB (PSn n N1 N2 n n1 n2 n3 rf rs rc M' M c1 c j ro rg)])
  | _ => none
noncomputable def uSL (O : FOps) : List Ly → Top → Option Outs := loopL nS 65 200 uSk [] (uSF O)
theorem uSO : CodeOK Try.prog nS (.loop (bodyOf Try.f55 11)) (uSL fops) := loopL_ok (cx := cx0 fops) (lp := fun _ => none) (fun ts => body_ok (l := []) trivial mixed 8 _ ts) fun p r hr hob => by
  unfold uSF at hr
  split at hr <;> cases hr
  rename_i n1 n2 n3 out M' k c1 h a j N1 rf N2 rs n rc M ro c rg
  obtain ⟨⟨⟨e1, e2, _, e4, e5, e6⟩, _, _, s1, s2, s3⟩, e8, e9, e11, hc0, hc1, hro, s4, hg⟩ := pB_iff.1 hob.head
  have hl := uSl (mkS n out rf rs rc) k M hro hc1 (datG rg 0) (fun j a b => hg j a b) c.toNat 0 h a (Int.le_refl _) (by omega)
  have t1 : RF (datF rf) (datG rf) = rf := s1.symm
  have t2 : RF (datF rs) (datG rs) = rs := s2.symm
  have t3 : RC (datF rc) (datG rc) = rc := s3.symm
  have t4 : RowI (datG rg 0) = rg := by
    have h5 : rg = rowK tsI (datF rg) (datG rg) := s4
    have h6 : rowK tsI (datF rg) (datG rg) = RowI (datG rg 0) := rfl
    rw [← h6]; exact h5.symm
  unfold uSD uSE sgD mkS at hl
  simp only [t1, t2, t3, t4] at hl
  rw [e1, e2, e4, e5, e6, e8, e9, e11]
  exact ⟨_, _, _, rfl, hl⟩
end
end Go.Proofs.Ytaoeigofmfpamaa.Smk
end

/- The smoke that comes into each flue: the rounds of spec.l03Into. Nothing is assumed. -/
section
namespace Go.Proofs.Ytaoeigofmfpamaa.Smk
open Go
noncomputable section
noncomputable def oSk : Sk := ⟨[(0, .c (.sl 3 0 5 false)), (1, .c (.sl 2 0 1 false)), (2, .c (.sl 1 0 1 false)), (3, .c (.flt .f32)), (9, .c (.sl 5 0 1 true)), (10, .c (.int .i64))],
  [(1, ⟨false, false, .rows 1⟩), (2, ⟨false, false, .rows 1⟩), (3, ⟨false, false, .rows 5⟩), (5, ⟨true, true, .rows 1⟩)], 6⟩
noncomputable def oSe : Sk := ⟨[(9, .c (.sl 5 0 1 true))], [(1, ⟨false, false, .rows 1⟩), (2, ⟨false, false, .rows 1⟩), (3, ⟨false, false, .rows 5⟩), (5, ⟨true, true, .rows 1⟩)], 6⟩
noncomputable def oSD (x : SmD) (k M : Int) (ro : Int → List SC) : List LD := [.i x.n, .i x.n, .i x.n, .f x.out, .i M, .i k] ++ sgD x M ro
noncomputable def oSg (O : FOps) (hh : List (Nat × Bool)) (ρ : List (Nat × Nat)) (sk : Sk) (x : SmD) (k M : Int) (ro : Int → List SC) : Option (Option XK × List LD × List Bool) :=
  goL (cxB O) nS ⟨hintS hh, lpOf [(11, uSL O)]⟩ (bodyOf Try.f55 3) 5 300 oSk ρ sk (oSD x k M ro)
noncomputable def trk (x : SmD) (k : Int) : Bool := decide (x.Gc 4 k = -1)
noncomputable def inS (x : SmD) (k M : Int) (ro : Int → List SC) : List Bool := fl5 x ro ++ [flatR (RowI (ix (x.Gc 4) x.n k)), pB (PSn x.n x.n x.n x.n x.n x.n x.n (RF x.Ff x.Gf) (RF x.Fs x.Gs) (RC x.Fc x.Gc) M M (cnt (x.Gc 4) x.n k) (cnt (x.Gc 4) x.n k) 0 ro (RowI (ix (x.Gc 4) x.n k)))]
noncomputable def hdT (x : SmD) (k : Int) : List Bool := [decide (k < x.n), inb x.n k, inb x.n k, trk x k, flatR (RC x.Fc x.Gc), flatR (RowI (ix (x.Gc 4) x.n k)), okB x.n x.n (RC x.Fc x.Gc), inb x.n k, inb x.n k]
noncomputable def hdN (x : SmD) (k : Int) : List Bool := [decide (k < x.n), inb x.n k, inb x.n k, !trk x k, inb x.n k, inb x.n k]
set_option maxRecDepth 100000 in
theorem oSA (O : FOps) (x : SmD) (k M : Int) (ro : Int → List SC) : oSg O [(20, true), (29, true), (79, true)] [(66, 5)] oSk x k M ro = some (none, oSD x (IntKind.i64.wrap (k + 1)) (M + 1) (apX ro M x.out), hdT x k ++ [ltO O x k, mO M] ++ fl5 x (apX ro M x.out)) := by kernel_rfl
set_option maxRecDepth 100000 in
theorem oSA2 (O : FOps) (x : SmD) (k M : Int) (ro : Int → List SC) : oSg O [(20, true), (29, false), (79, true)] [(8, 5)] oSk x k M ro = some (none, oSD x (IntKind.i64.wrap (k + 1)) (M + 1) (apX ro M x.out), hdN x k ++ [ltO O x k, mO M] ++ fl5 x (apX ro M x.out)) := by kernel_rfl
set_option maxRecDepth 100000 in
theorem oSB (O : FOps) (x : SmD) (k M : Int) (ro : Int → List SC) : oSg O [(20, true), (29, true), (79, false), (89, true)] [(66, 5)] oSk x k M ro = some (none, oSD x (IntKind.i64.wrap (k + 1)) (M + 1) (apX ro M (x.Fs 0 k)), hdT x k ++ [!ltO O x k, noO x k, inb x.n k, inb x.n k, mO M] ++ fl5 x (apX ro M (x.Fs 0 k))) := by kernel_rfl
set_option maxRecDepth 100000 in
theorem oSB2 (O : FOps) (x : SmD) (k M : Int) (ro : Int → List SC) : oSg O [(20, true), (29, false), (79, false)] [(8, 5)] oSk x k M ro = some (none, oSD x (IntKind.i64.wrap (k + 1)) (M + 1) (apX ro M (x.Fs 0 k)), hdN x k ++ [!ltO O x k, inb x.n k, inb x.n k, mO M] ++ fl5 x (apX ro M (x.Fs 0 k))) := by kernel_rfl
set_option maxRecDepth 100000 in
theorem oSC (O : FOps) (x : SmD) (k M : Int) (ro : Int → List SC) : oSg O [(20, true), (29, true), (79, false), (89, false), (64, true)] [(201, 5)] oSk x k M ro = some (none, oSD x (IntKind.i64.wrap (k + 1)) (M + 1) (apX ro M (O.bin .quo .f32 (tO O x k).1 (tO O x k).2)), hdT x k ++ [!ltO O x k, !noO x k] ++ inS x k M ro ++ [gtO O x k, mO M] ++ fl5 x (apX ro M (O.bin .quo .f32 (tO O x k).1 (tO O x k).2))) := by kernel_rfl
set_option maxRecDepth 100000 in
theorem oSD2 (O : FOps) (x : SmD) (k M : Int) (ro : Int → List SC) : oSg O [(20, true), (29, true), (79, false), (89, false), (64, false)] [(201, 5)] oSk x k M ro = some (none, oSD x (IntKind.i64.wrap (k + 1)) (M + 1) (apX ro M (x.Fc 2 k)), hdT x k ++ [!ltO O x k, !noO x k] ++ inS x k M ro ++ [!gtO O x k, inb x.n k, inb x.n k, mO M] ++ fl5 x (apX ro M (x.Fc 2 k))) := by kernel_rfl
set_option maxRecDepth 100000 in
theorem oSX (O : FOps) (x : SmD) (k M : Int) (ro : Int → List SC) : oSg O [(20, false)] [] oSe x k M ro = some (some (.exit 0), oIE x M ro, [!decide (k < x.n)] ++ fl5 x ro) := by kernel_rfl
section
variable {x : SmD} {k M : Int} {ro : Int → List SC} (hn : x.n ≤ 900000) (h0 : 0 ≤ k) (h1 : k < x.n) (hm0 : 0 ≤ M) (hm1 : M ≤ 900000) (hro : flatR ro = true)
include hn h0 h1
theorem hdT_ok (ht : trk x k = true) : AllT (hdT x k) := by
  have b := inb_ok h0 h1
  have fc : flatR (RC x.Fc x.Gc) = true := rowK_flat _ _ _
  exact AllT.cons (decide_eq_true h1) (AllT.cons b (AllT.cons b (AllT.cons ht (AllT.cons fc (AllT.cons (rowK_flat _ _ _) (AllT.cons (pB_iff.2 ⟨rfl, by omega, hn, SlFlue.shape_row _ _⟩) (AllT.cons b (AllT.one' b))))))))
omit hn in
theorem hdN_ok (ht : trk x k = false) : AllT (hdN x k) := by
  have b := inb_ok h0 h1
  exact AllT.cons (decide_eq_true h1) (AllT.cons b (AllT.cons b (AllT.cons (by rw [ht]; rfl) (AllT.cons b (AllT.one' b)))))
include hro in
theorem inS_ok : AllT (inS x k M ro) := by
  have hc := lst_ok (g := x.Gc 4) (n := x.n) (by omega) k
  refine AllT.app (fl5_ok x hro) (AllT.cons (rowK_flat _ _ _) (AllT.one' (pB_iff.2 ⟨⟨⟨rfl, rfl, rfl, rfl, rfl, rfl⟩, by omega, hn, SlFloat32.shape_row _ _, SlFloat32.shape_row _ _, SlFlue.shape_row _ _⟩, rfl, rfl, rfl, hc.1, by omega, hro, rfl, fun j a b => ?_⟩)))
  exact (ix_ok (g := x.Gc 4) (n := x.n) (by omega) k a b).2
end
theorem oSl (x : SmD) (hn0 : 0 ≤ x.n) (hn : x.n ≤ 900000) (hT : ∀ k, 0 ≤ k → k < x.n → trk x k = false → cnt (x.Gc 4) x.n k = 0) : ∀ (m k : Nat), (k : Int) + m = x.n →
    LoopsX Try.prog nS (bodyOf Try.f55 3) 5 300 oSk (oSD x k k (orow (svO fops x) k)) (.exit 0) oSe (oIE x x.n (orow (svO fops x) x.n.toNat)) := by
  have hx : ∀ ts, CodeOK Try.prog nS (bodyOf Try.f55 3) (sx (cxB fops) nS ⟨ts, lpOf [(11, uSL fops)]⟩ (bodyOf Try.f55 3)) := fun ts => by
    have h1 : onceB (loopsIn (bodyOf Try.f55 3)) = true := by kernel_rfl
    have h2 : loopAt 11 (loopsIn (bodyOf Try.f55 3)) = some (bodyOf Try.f55 11) := by kernel_rfl
    exact bodyL_ok (l := LB fops) okLB mixed 8 ts h1 ⟨⟨_, h2, uSO⟩, trivial⟩
  intro m
  induction m with
  | zero =>
    intro k hkn
    have e : x.n.toNat = k := by omega
    have e2 : x.n = (k : Int) := by omega
    rw [e]
    have h := oSX fops x k k (orow (svO fops x) k)
    rw [show oIE x (k : Int) (orow (svO fops x) k) = oIE x x.n (orow (svO fops x) k) by rw [← e2]] at h
    exact .done (ρ := []) (hx _) h (AllT.app (AllT.one' (by simp; omega)) (fl5_ok x (orow_flat _ k)))
  | succ m ih =>
    intro k hkn
    have hlt : (k : Int) < x.n := by omega
    have hk0 : (0 : Int) ≤ k := by omega
    have hro := orow_flat (svO fops x) k
    have hmo := mO_ok (M := (k : Int)) hk0 (by omega)
    have b := inb_ok hk0 hlt
    have i1 := ih (k + 1) (by omega)
    have hw : IntKind.i64.wrap ((k : Int) + 1) = ((k + 1 : Nat) : Int) := by rw [wrap_succ hk0 (by omega)]; omega
    have hM : ((k : Int) + 1) = ((k + 1 : Nat) : Int) := by omega
    have hv : ∀ v, svO fops x k = v → orow (svO fops x) (k + 1) = apX (orow (svO fops x) k) k v := fun v e => by
      show apX (orow (svO fops x) k) k (svO fops x k) = _
      rw [e]
    have hfl := fun v => fl5_ok x (apX_flat hro k v)
    cases ht : trk x k with
    | false =>
      have hd := hdN_ok hk0 hlt ht
      have hc' : decide (cnt (x.Gc 4) x.n k = 0) = true := decide_eq_true (hT k hk0 hlt ht)
      cases hl : ltO fops x k with
      | true =>
        have h := oSA2 fops x k k (orow (svO fops x) k)
        have e : svO fops x k = x.out := by
          unfold svO sv
          rw [show fops.cmp .lss .f32 (x.Ff 0 k) 0 = true from hl]; rfl
        rw [hw, hM, ← hv _ e] at h
        exact .step (hx _) h (AllT.app (AllT.app hd (AllT.cons hl (AllT.one' hmo))) (by rw [hv _ e]; exact hfl _)) i1
      | false =>
        have hl' : fops.cmp .lss .f32 (x.Ff 0 k) 0 = false := hl
        have h := oSB2 fops x k k (orow (svO fops x) k)
        have e : svO fops x k = x.Fs 0 k := by
          unfold svO sv
          rw [hl', hc']; rfl
        rw [hw, hM, ← hv _ e] at h
        exact .step (hx _) h (AllT.app (AllT.app hd (AllT.cons (by rw [hl]; rfl) (AllT.cons b (AllT.cons b (AllT.one' hmo))))) (by rw [hv _ e]; exact hfl _)) i1
    | true =>
      have hd := hdT_ok hn hk0 hlt ht
      cases hl : ltO fops x k with
      | true =>
        have h := oSA fops x k k (orow (svO fops x) k)
        have e : svO fops x k = x.out := by
          unfold svO sv
          rw [show fops.cmp .lss .f32 (x.Ff 0 k) 0 = true from hl]; rfl
        rw [hw, hM, ← hv _ e] at h
        exact .step (hx _) h (AllT.app (AllT.app hd (AllT.cons hl (AllT.one' hmo))) (by rw [hv _ e]; exact hfl _)) i1
      | false =>
        have hl' : fops.cmp .lss .f32 (x.Ff 0 k) 0 = false := hl
        cases hc : noO x k with
        | true =>
          have h := oSB fops x k k (orow (svO fops x) k)
          have e : svO fops x k = x.Fs 0 k := by
            unfold svO sv
            rw [hl', show decide (cnt (x.Gc 4) x.n k = 0) = true from hc]; rfl
          rw [hw, hM, ← hv _ e] at h
          exact .step (hx _) h (AllT.app (AllT.app hd (AllT.cons (by rw [hl]; rfl) (AllT.cons hc (AllT.cons b (AllT.cons b (AllT.one' hmo)))))) (by rw [hv _ e]; exact hfl _)) i1
        | false =>
          have hc' : decide (cnt (x.Gc 4) x.n k = 0) = false := hc
          have hi := inS_ok (M := (k : Int)) hn hk0 hlt hro
          cases hg : gtO fops x k with
          | true =>
            have h := oSC fops x k k (orow (svO fops x) k)
            have e : svO fops x k = fops.bin .quo .f32 (tO fops x k).1 (tO fops x k).2 := by
              unfold svO sv
              rw [hl', hc', show fops.cmp .gtr .f32 (smT fops (x.Gc 4) (x.Ff 0) (x.Fc 2) x.n k).2 0 = true from hg]; rfl
            rw [hw, hM, ← hv _ e] at h
            exact .step (hx _) h (AllT.app (AllT.app (AllT.app (AllT.app hd (AllT.cons (by rw [hl]; rfl) (AllT.one' (by rw [hc]; rfl)))) hi) (AllT.cons hg (AllT.one' hmo))) (by rw [hv _ e]; exact hfl _)) i1
          | false =>
            have h := oSD2 fops x k k (orow (svO fops x) k)
            have e : svO fops x k = x.Fc 2 k := by
              unfold svO sv
              rw [hl', hc', show fops.cmp .gtr .f32 (smT fops (x.Gc 4) (x.Ff 0) (x.Fc 2) x.n k).2 0 = false from hg]; rfl
            rw [hw, hM, ← hv _ e] at h
            exact .step (hx _) h (AllT.app (AllT.app (AllT.app (AllT.app hd (AllT.cons (by rw [hl]; rfl) (AllT.one' (by rw [hc]; rfl)))) hi) (AllT.cons (by rw [hg]; rfl) (AllT.cons b (AllT.cons b (AllT.one' hmo))))) (by rw [hv _ e]; exact hfl _)) i1
end
end Go.Proofs.Ytaoeigofmfpamaa.Smk
end

/- The smoke that comes into each flue: both functions, told by hand. Nothing is assumed. -/
section
namespace Go.Proofs.Ytaoeigofmfpamaa.Smk
open Go
noncomputable section
def PO (n N1 N2 n1 n2 n3 n4 n5 M' k M : Int) (rf rs rc ro : Int → List SC) : Prop :=
  P5 n N1 N2 n n1 n2 n3 rf rs rc ∧ n4 = n ∧ n5 = n ∧ M' = 0 ∧ k = 0 ∧ M = 0 ∧ ro = fun _ => []
/-- Who is no trunk has no branches. -/
def TrunkOk (n : Int) (rc : Int → List SC) : Prop := ∀ k, 0 ≤ k → k < n → decide (datG rc 4 k = -1) = false → cnt (datG rc 4) n k = 0
noncomputable def svR (O : FOps) (n : Int) (out : Nat) (rf rs rc : Int → List SC) : Int → Nat := svO O (mkS n out rf rs rc)
noncomputable def oRes (O : FOps) (n : Int) (out : Nat) (rf rs rc : Int → List SC) : List LD := [.i n, .i n, .r rf, .i n, .r rs, .i n, .r rc, .i n, .r (orow (svR O n out rf rs rc) n.toNat)]
noncomputable def oIF (O : FOps) : List LD → Option (XO × List Bool)
  | [.i n1, .i n2, .i n3, .f out, .i M', .i n4, .i n5, .i k, .i N1, .r rf, .i N2, .r rs, .i n, .r rc, .i M, .r ro] =>
    some ([(.t, .exit 0, oIe, oRes O n out rf rs rc)], [pB (PO n N1 N2 n1 n2 n3 n4 n5 M' k M rf rs rc ro)])
  | _ => none
noncomputable def oSF (O : FOps) : List LD → Option (XO × List Bool)
  | [.i n1, .i n2, .i n3, .f out, .i M', .i k, .i N1, .r rf, .i N2, .r rs, .i n, .r rc, .i M, .r ro] =>
    some ([(.t, .exit 0, oSe, oRes O n out rf rs rc)], [pB (PO n N1 N2 n1 n2 n3 n n M' k M rf rs rc ro), pB (TrunkOk n rc)])
  | _ => none
noncomputable def oIL (O : FOps) : List Ly → Top → Option Outs := loopL nI 5 300 oIk [(4, 5)] (oIF O)
noncomputable def oSL (O : FOps) : List Ly → Top → Option Outs := loopL nS 5 300 oSk [(4, 5)] (oSF O)
theorem oIO : CodeOK Try.prog nI (.loop (bodyOf Try.f59 3)) (oIL fops) := loopX_ok fun p r hr hob => by
  unfold oIF at hr
  split at hr <;> cases hr
  rename_i n1 n2 n3 out M' n4 n5 k N1 rf N2 rs n rc M ro
  obtain ⟨⟨⟨e1, e2, _, e4, e5, e6⟩, h0, h1, s1, s2, s3⟩, e7, e8, e9, e10, e11, e12⟩ := pB_iff.1 hob.head
  have hl := oIl (mkS n out rf rs rc) h0 h1 n.toNat 0 (by show ((0 : Nat) : Int) + (n.toNat : Int) = n; omega)
  have t1 : RF (datF rf) (datG rf) = rf := s1.symm
  have t2 : RF (datF rs) (datG rs) = rs := s2.symm
  have t3 : RC (datF rc) (datG rc) = rc := s3.symm
  unfold oID oIE sgD at hl
  simp only [show (mkS n out rf rs rc).n = n from rfl, show (mkS n out rf rs rc).out = out from rfl, show RF (mkS n out rf rs rc).Ff (mkS n out rf rs rc).Gf = rf from t1, show RF (mkS n out rf rs rc).Fs (mkS n out rf rs rc).Gs = rs from t2, show RC (mkS n out rf rs rc).Fc (mkS n out rf rs rc).Gc = rc from t3] at hl
  rw [e1, e2, e4, e5, e6, e7, e8, e9, e10, e11, e12]
  exact ⟨_, _, _, rfl, hl⟩
theorem oSO : CodeOK Try.prog nS (.loop (bodyOf Try.f55 3)) (oSL fops) := loopX_ok fun p r hr hob => by
  unfold oSF at hr
  split at hr <;> cases hr
  rename_i n1 n2 n3 out M' k N1 rf N2 rs n rc M ro
  obtain ⟨⟨⟨e1, e2, _, e4, e5, e6⟩, h0, h1, s1, s2, s3⟩, _, _, e9, e10, e11, e12⟩ := pB_iff.1 hob.head
  have hT := pB_iff.1 hob.tail.head
  have hl := oSl (mkS n out rf rs rc) h0 h1 (fun k a b c => hT k a b c) n.toNat 0 (by show ((0 : Nat) : Int) + (n.toNat : Int) = n; omega)
  have t1 : RF (datF rf) (datG rf) = rf := s1.symm
  have t2 : RF (datF rs) (datG rs) = rs := s2.symm
  have t3 : RC (datF rc) (datG rc) = rc := s3.symm
  unfold oSD oIE sgD at hl
  simp only [show (mkS n out rf rs rc).n = n from rfl, show (mkS n out rf rs rc).out = out from rfl, show RF (mkS n out rf rs rc).Ff (mkS n out rf rs rc).Gf = rf from t1, show RF (mkS n out rf rs rc).Fs (mkS n out rf rs rc).Gs = rs from t2, show RC (mkS n out rf rs rc).Fc (mkS n out rf rs rc).Gc = rc from t3] at hl
  rw [e1, e2, e4, e5, e6, e9, e10, e11, e12]
  exact ⟨_, _, _, rfl, hl⟩
set_option maxRecDepth 100000 in
theorem sCI : CallOK Try.prog 59 (nwS (inl (cxB fops) Try.f59 ⟨fun _ => none, lpOf [(3, oIL fops)]⟩)) := by
  have hb : Try.f59.body.isSome = true := by kernel_rfl
  obtain ⟨c, hc⟩ := Option.isSome_iff_exists.1 hb
  have h1 : (match Try.f59.body with | some c => onceB (loopsIn c) && (match loopAt 3 (loopsIn c) with | some _ => true | none => false) | none => false) = true := by kernel_rfl
  rw [hc] at h1
  simp only [Bool.and_eq_true] at h1
  exact (inlL_of (l := LB fops) (ls := [(3, oIL fops)]) okLB mixed 8 Try.func59 (by kernel_rfl) (fun _ => none) hc h1.1 ⟨⟨_, bodyOf_at hc h1.2, oIO⟩, trivial⟩).nw
set_option maxRecDepth 100000 in
theorem sCS : CallOK Try.prog 55 (nwS (inl (cxB fops) Try.f55 ⟨fun _ => none, lpOf [(3, oSL fops)]⟩)) := by
  have hb : Try.f55.body.isSome = true := by kernel_rfl
  obtain ⟨c, hc⟩ := Option.isSome_iff_exists.1 hb
  have h1 : (match Try.f55.body with | some c => onceB (loopsIn c) && (match loopAt 3 (loopsIn c) with | some _ => true | none => false) | none => false) = true := by kernel_rfl
  rw [hc] at h1
  simp only [Bool.and_eq_true] at h1
  exact (inlL_of (l := LB fops) (ls := [(3, oSL fops)]) okLB mixed 8 Try.func55 (by kernel_rfl) (fun _ => none) hc h1.1 ⟨⟨_, bodyOf_at hc h1.2, oSO⟩, trivial⟩).nw
noncomputable def sRun (S : CS) (f1 f2 f3 w1 o1 w2 o2 w3 o3 : Bool) (n1 n2 n N1 N2 N3 : Int) (out : Nat) (rf rs rc : Int → List SC) : Option CEff :=
  S 4 [.c (.sl 3 0 5 (.s n) f3), .c (.sl 2 0 1 (.s n2) f2), .c (.sl 1 0 1 (.s n1) f1), .c (.flt .f32 out)] [(1, ⟨w1, o1, .rows 1 N1 rf⟩), (2, ⟨w2, o2, .rows 1 N2 rs⟩), (3, ⟨w3, o3, .rows 5 N3 rc⟩)]
set_option maxRecDepth 100000 in
theorem oIr (O : FOps) (f1 f2 f3 w1 o1 w2 o2 w3 o3 : Bool) (n1 n2 n N1 N2 N3 : Int) (out : Nat) (rf rs rc : Int → List SC) : sRun (nwS (inl (cxB O) Try.f59 ⟨fun _ => none, lpOf [(3, oIL O)]⟩)) f1 f2 f3 w1 o1 w2 o2 w3 o3 n1 n2 n N1 N2 N3 out rf rs rc =
    some ⟨.c (.sl 5 0 1 (.s N3) true), [(5, some ⟨true, true, .rows 1 N3 (orow (svR O N3 out rf rs rc) N3.toNat)⟩)], 300, [flatR rf, flatR rs, flatR rc, pB (PO N3 N1 N2 n n2 n1 n n 0 0 0 rf rs rc (fun _ => []))]⟩ := by kernel_rfl
set_option maxRecDepth 100000 in
theorem oSr (O : FOps) (f1 f2 f3 w1 o1 w2 o2 w3 o3 : Bool) (n1 n2 n N1 N2 N3 : Int) (out : Nat) (rf rs rc : Int → List SC) : sRun (nwS (inl (cxB O) Try.f55 ⟨fun _ => none, lpOf [(3, oSL O)]⟩)) f1 f2 f3 w1 o1 w2 o2 w3 o3 n1 n2 n N1 N2 N3 out rf rs rc =
    some ⟨.c (.sl 5 0 1 (.s N3) true), [(5, some ⟨true, true, .rows 1 N3 (orow (svR O N3 out rf rs rc) N3.toNat)⟩)], 300, [flatR rf, flatR rs, flatR rc, pB (PO N3 N1 N2 n n2 n1 N3 N3 0 0 0 rf rs rc (fun _ => [])), pB (TrunkOk N3 rc)]⟩ := by kernel_rfl
/-- What both ask for. -/
def PH (n1 n2 n N1 N2 N3 : Int) (rf rs rc : Int → List SC) : Prop := (n = N3 ∧ n2 = N3 ∧ n1 = N3 ∧ N1 = N3 ∧ N2 = N3) ∧ 0 ≤ N3 ∧ N3 ≤ 900000 ∧ Shape SlFloat32.ts rf ∧ Shape SlFloat32.ts rs ∧ Shape SlFlue.ts rc ∧ TrunkOk N3 rc
noncomputable def okH (n1 n2 n N1 N2 N3 : Int) (rf rs rc : Int → List SC) : Bool := pB (PH n1 n2 n N1 N2 N3 rf rs rc)
noncomputable def smH (O : FOps) : CS := fun base args rd => match args with
  | [.c (.sl i o es (.s n) _), .c (.sl i2 o2 es2 (.s n2) _), .c (.sl i1 o1 es1 (.s n1) _), .c (.flt .f32 out)] => match rd with
    | [(j1, ⟨_, _, .rows st1 N1 rf⟩), (j2, ⟨_, _, .rows st2 N2 rs⟩), (j3, ⟨_, _, .rows st3 N3 rc⟩)] =>
      match Nat.beq base 4 && (Nat.beq i 3 && (Nat.beq o 0 && (Nat.beq es 5 && (Nat.beq i2 2 && (Nat.beq o2 0 && (Nat.beq es2 1 && (Nat.beq i1 1 && (Nat.beq o1 0 && (Nat.beq es1 1 && (Nat.beq j1 1 && (Nat.beq j2 2 && (Nat.beq j3 3 && (Nat.beq st1 1 && (Nat.beq st2 1 && Nat.beq st3 5)))))))))))))) with
      | true => some ⟨.c (.sl 5 0 1 (.s N3) true), [(5, some ⟨true, true, .rows 1 N3 (RowX (svR O N3 out rf rs rc))⟩)], 300, [okH n1 n2 n N1 N2 N3 rf rs rc]⟩
      | false => none
    | _ => none
  | _ => none
set_option maxRecDepth 100000 in
theorem cSmI : CallOK Try.prog 59 (canS (smH fops)) := CallOK.can (lesS sCI fun bs args rd e hh hob => by
  unfold smH at hh
  split at hh <;> try (cases hh; done)
  rename_i i o es n f3 i2 o2 es2 n2 f2 i1 o1 es1 n1 f1 out
  split at hh <;> try (cases hh; done)
  rename_i j1 w1 p1 st1 N1 rf j2 w2 p2 st2 N2 rs j3 w3 p3 st3 N3 rc
  split at hh <;> cases hh
  rename_i hc
  simp only [Bool.and_eq_true, beqN] at hc
  obtain ⟨rfl, rfl, rfl, rfl, rfl, rfl, rfl, rfl, rfl, rfl, rfl, rfl, rfl, rfl, rfl, rfl⟩ := hc
  obtain ⟨⟨a1, a2, a3, a4, a5⟩, h0, h1, s1, s2, s3, _⟩ := pB_iff.1 (show pB _ = true from hob.head)
  refine ⟨_, oIr fops f1 f2 f3 w1 p1 w2 p2 w3 p3 n1 n2 n N1 N2 N3 out rf rs rc, AllT.cons (SlFloat32.shape_flat s1) (AllT.cons (SlFloat32.shape_flat s2) (AllT.cons (SlFlue.shape_flat s3) (AllT.one' (pB_iff.2 ⟨⟨⟨a4, a5, rfl, a1, a2, a3⟩, h0, h1, s1, s2, s3⟩, a1, a1, rfl, rfl, rfl, rfl⟩)))), rfl, rfl, fun f => upd_lesS (orow_le _ _ h0)⟩)
set_option maxRecDepth 100000 in
theorem cSmS : CallOK Try.prog 55 (canS (smH fops)) := CallOK.can (lesS sCS fun bs args rd e hh hob => by
  unfold smH at hh
  split at hh <;> try (cases hh; done)
  rename_i i o es n f3 i2 o2 es2 n2 f2 i1 o1 es1 n1 f1 out
  split at hh <;> try (cases hh; done)
  rename_i j1 w1 p1 st1 N1 rf j2 w2 p2 st2 N2 rs j3 w3 p3 st3 N3 rc
  split at hh <;> cases hh
  rename_i hc
  simp only [Bool.and_eq_true, beqN] at hc
  obtain ⟨rfl, rfl, rfl, rfl, rfl, rfl, rfl, rfl, rfl, rfl, rfl, rfl, rfl, rfl, rfl, rfl⟩ := hc
  obtain ⟨⟨a1, a2, a3, a4, a5⟩, h0, h1, s1, s2, s3, hT⟩ := pB_iff.1 (show pB _ = true from hob.head)
  refine ⟨_, oSr fops f1 f2 f3 w1 p1 w2 p2 w3 p3 n1 n2 n N1 N2 N3 out rf rs rc, AllT.cons (SlFloat32.shape_flat s1) (AllT.cons (SlFloat32.shape_flat s2) (AllT.cons (SlFlue.shape_flat s3) (AllT.cons (pB_iff.2 ⟨⟨⟨a4, a5, rfl, a1, a2, a3⟩, h0, h1, s1, s2, s3⟩, rfl, rfl, rfl, rfl, rfl, rfl⟩) (AllT.one' (pB_iff.2 hT))))), rfl, rfl, fun f => upd_lesS (orow_le _ _ h0)⟩)
end
end Go.Proofs.Ytaoeigofmfpamaa.Smk
end

/- Whether all numbers of a list are finite, with any number of them. Nothing is assumed. -/
section
namespace Go.Proofs.Ytaoeigofmfpamaa.Fnr
open Go
noncomputable section
def LA : List (Nat × CS) := [(96, absS)]
set_option maxRecDepth 100000 in
theorem okLA : AllOK Try.prog LA := ⟨cAbs, trivial⟩
def cxA (O : FOps) : Cx := ⟨Try.prog, O, orcN Try.prog O LA 8⟩
theorem shF {ts : List KK} {row : Int → List SC} (h : Shape ts row) : flatR row = true := by rw [h]; exact rowK_flat _ _ _
def skR (t : Nat) (nx : Nat) : Sk := ⟨[(t, .c (.boolc false))], [], nx⟩
noncomputable def NFi : Nat := Try.f58.ntmps
noncomputable def Fik : Sk := ⟨[(5, .c (.sl 1 0 1 false)), (6, .c (.int .i64)), (7, .c (.int .i64))], [(1, ⟨false, false, .rows 1⟩)], 2⟩
noncomputable def Fie : Sk := ⟨[], [], 2⟩
noncomputable def FiD (F : Nat → Int → Nat) (G : Nat → Int → Int) (n : Int) (k : Int) : List LD := [.i n, .i n, .i k] ++ [.i n, .r (SlFloat32.Row F G)]
noncomputable def Fig (O : FOps) (u v : Bool) (s : Sk) (F : Nat → Int → Nat) (G : Nat → Int → Int) (n : Int) (k : Int) : Option (Option XK × List LD × List Bool) := goL (cxA O) NFi ⟨hints [(8, u), (18, v)], fun _ => none⟩ (bodyOf Try.f58 2) 2 60 Fik [] s (FiD F G n k)
set_option maxRecDepth 100000 in
theorem Fia (O : FOps) (F : Nat → Int → Nat) (G : Nat → Int → Int) (n : Int) (k : Int) : Fig O true false Fik F G n k = some (none, FiD F G n (IntKind.i64.wrap (k + 1)), [decide (k < n)] ++ [bd n k, bd n k] ++ [!infI O (F 0 k)] ++ [flatR (SlFloat32.Row F G)]) := by kernel_rfl
set_option maxRecDepth 100000 in
theorem Fib (O : FOps) (F : Nat → Int → Nat) (G : Nat → Int → Int) (n : Int) (k : Int) : Fig O true true (skR 2 2) F G n k = some (some .ret, [], [decide (k < n)] ++ [bd n k, bd n k] ++ [infI O (F 0 k)]) := by kernel_rfl
set_option maxRecDepth 100000 in
theorem Fic (O : FOps) (F : Nat → Int → Nat) (G : Nat → Int → Int) (n : Int) (k : Int) : Fig O false true Fie F G n k = some (some (.exit 0), [], [!decide (k < n)]) := by kernel_rfl
theorem Fil (F : Nat → Int → Nat) (G : Nat → Int → Int) (n : Int) (hn : n ≤ 1048576) : ∀ (m : Nat) (k : Int), 0 ≤ k → k + m = n →
    (eqFrom (fun k => isNum (F 0 k)) k m = true → Loops (cxA fops) NFi (fun _ => none) (bodyOf Try.f58 2) 2 60 Fik (FiD F G n k) (.exit 0) Fie ([])) ∧
    (eqFrom (fun k => isNum (F 0 k)) k m = false → Loops (cxA fops) NFi (fun _ => none) (bodyOf Try.f58 2) 2 60 Fik (FiD F G n k) .ret (skR 2 2) []) := by
  refine scan_loops (D := FiD F G n) (n := n) (fun k hk hlt hq => ?_) (fun k hk hlt hq => ?_) ?_
  · have r := Fia fops F G n k
    rw [wrap_succ hk (by omega)] at r
    have hq' : isNum (F 0 k) = true := hq
    exact .mk _ (ρ := []) r (AllT.app (AllT.app (AllT.app (AllT.one' (by simpa using hlt)) (AllT.cons (bd_ok hk hlt) (AllT.one' (bd_ok hk hlt)))) (AllT.one' (by rw [infI_eq, hq']; rfl))) (AllT.one' (rowK_flat _ _ _)))
  · have hq' : isNum (F 0 k) = false := hq
    exact .mk _ (ρ := []) (Fib fops F G n k) (AllT.app (AllT.app (AllT.one' (by simpa using hlt)) (AllT.cons (bd_ok hk hlt) (AllT.one' (bd_ok hk hlt)))) (AllT.one' (by rw [infI_eq, hq']; rfl)))
  · exact .mk _ (ρ := []) (Fic fops F G n n) (AllT.one' (by simp))
def FiP (l2 k n N : Int) (row : Int → List SC) : Prop := l2 = n ∧ k = 0 ∧ N = n ∧ 0 ≤ n ∧ n ≤ 1048576 ∧ Shape SlFloat32.ts row
noncomputable def FiF : List LD → Option (XO × List Bool)
  | [.i n, .i l2, .i k, .i N, .r row] => some ([(.s (!eqFrom (fun k => isNum (datF row 0 k)) 0 n.toNat), .ret, (skR 2 2), []), (.t, .exit 0, Fie, [])], [pB (FiP l2 k n N row)])
  | _ => none
noncomputable def FiL (O : FOps) : List Ly → Top → Option Outs := orIter (cxA O) NFi (bodyOf Try.f58 2) (loopL NFi 2 60 Fik [] FiF)
set_option maxRecDepth 100000 in
theorem Fio : CodeOK Try.prog NFi (.loop (bodyOf Try.f58 2)) (FiL fops) := by
  refine orIter_ok (l := LA) okLA mixed 8 (loopL_ok (cx := cxA fops) (lp := fun _ => none) (fun ts => body_ok (l := LA) okLA mixed 8 _ ts) fun p r hr hob => ?_)
  unfold FiF at hr
  split at hr <;> cases hr
  rename_i n l2 k N row
  obtain ⟨e0, e1, e2, h0, hm, s0⟩ := pB_iff.1 hob.head
  rw [e0, e1, e2]
  obtain ⟨h1, h2⟩ := Fil (datF row) (datG row) n hm (n).toNat 0 (Int.le_refl _) (by show (0 : Int) + ((n).toNat : Nat) = _; omega)
  unfold FiD at h1 h2
  rw [← (show row = SlFloat32.Row (datF row) (datG row) from s0)] at h1 h2
  cases hq : eqFrom (fun k => isNum (datF row 0 k)) 0 (n).toNat with
  | true => exact ⟨_, _, _, by simp [pickX, SB.val], h1 hq⟩
  | false => exact ⟨_, _, _, by simp [pickX, SB.val], h2 hq⟩
/-- All numbers of a list are finite. -/
def finN (nm : Nat → Bool) (n : Int) (row : Int → List SC) : Bool := bif !eqFrom (fun k => nm (datF row 0 k)) 0 n.toNat then false else true
def frH (nm : Nat → Bool) : CS := fun base args rd => match args with
  | [.c (.sl i o es (.s n) _)] => match rd with
    | [(j, ⟨_, _, .rows st N row⟩)] => match Nat.beq base 2 && (Nat.beq i 1 && (Nat.beq o 0 && (Nat.beq es 1 && (Nat.beq j 1 && Nat.beq st 1)))) with
      | true => some ⟨.c (.bool (.s (finN nm n row))), [], 60, [SlFloat32.okN n N row]⟩
      | false => none
    | _ => none
  | _ => none
set_option maxRecDepth 100000 in
theorem FiC : CallOK Try.prog 58 (inl (cxA fops) Try.f58 ⟨fun _ => none, lpOf [(2, FiL fops)]⟩) := by
  have hb : Try.f58.body.isSome = true := by kernel_rfl
  obtain ⟨c, hc⟩ := Option.isSome_iff_exists.1 hb
  have h1 : (match Try.f58.body with | some c => onceB (loopsIn c) && (match loopAt 2 (loopsIn c) with | some _ => true | none => false) | none => false) = true := by kernel_rfl
  rw [hc] at h1
  simp only [Bool.and_eq_true] at h1
  exact inlL_of (l := LA) (ls := [(2, FiL fops)]) okLA mixed 8 Try.func58 (by kernel_rfl) (fun _ => none) hc h1.1 ⟨⟨_, bodyOf_at hc h1.2, Fio⟩, trivial⟩
set_option maxRecDepth 100000 in
theorem FiR (O : FOps) (f w o : Bool) (n N : Int) (row : Int → List SC) : roS (inl (cxA O) Try.f58 ⟨fun _ => none, lpOf [(2, FiL O)]⟩) 2 [.c (.sl 1 0 1 (.s n) f)] [(1, ⟨w, o, .rows 1 N row⟩)] =
    some ⟨.c (.bool (.s (finN isNum n row))), [], 60, [flatR row, pB (FiP n 0 n N row)]⟩ := by kernel_rfl
def frS (nm : Nat → Bool) : CS := orS (canS (frH nm)) (gQ [.s 1] (finG nm))
set_option maxRecDepth 100000 in
theorem cFr : CallOK Try.prog 58 (frS isNum) :=
  (CallOK.hand (H := frH isNum) FiC.ro fun b args rd e h hob => by
    unfold frH at h
    split at h <;> try (cases h; done)
    rename_i i o es n f
    split at h <;> try (cases h; done)
    rename_i j w p st N row
    split at h <;> cases h
    rename_i hc
    simp only [Bool.and_eq_true, beqN] at hc
    obtain ⟨rfl, rfl, rfl, rfl, rfl, rfl⟩ := hc
    obtain ⟨e, h0, hm, hs⟩ := pB_iff.1 hob.head
    subst e
    exact ⟨_, FiR fops f w p N N row, AllT.cons (shF hs) (AllT.one' (pB_iff.2 ⟨rfl, rfl, rfl, h0, hm, hs⟩))⟩).can.or cFin
end
end Go.Proofs.Ytaoeigofmfpamaa.Fnr
end

/- Whether all numbers of a list are smoke's heats, or finite: isSmoke, l03Smokes, l03Finites. Nothing is assumed. -/
section
namespace Go.Proofs.Ytaoeigofmfpamaa.Smk
open Go
noncomputable section
noncomputable def LN (nm : Nat → Bool) : List (Nat × CS) := [(67, gS (fin1G nm))]
set_option maxRecDepth 100000 in
theorem okLN : AllOK Try.prog (LN isNum) := ⟨cFinL, trivial⟩
noncomputable def cxN (O : FOps) (nm : Nat → Bool) : Cx := ⟨Try.prog, O, orcN Try.prog O (LN nm) 8⟩
noncomputable def hot (O : FOps) (x : Nat) : Bool := bif O.cmp .geq .f32 x 3262119936 then O.cmp .leq .f32 x 1153138688 else false
noncomputable def rdR (t nx : Nat) : Sk := ⟨[(t, .c (.boolc false))], [], nx⟩
noncomputable def all1 (q : Nat → Bool) (n : Int) (row : Int → List SC) : Bool := eqFrom (fun k => q (datF row 0 k)) 0 n.toNat

/-! ### spec.l03Finites -/
noncomputable def NFs : Nat := Try.f54.ntmps
noncomputable def kFs : Sk := ⟨[(0, .c (.sl 1 0 1 false)), (3, .c (.int .i64))], [(1, ⟨false, false, .rows 1⟩)], 2⟩
noncomputable def eFs : Sk := ⟨[], [], 2⟩
noncomputable def DFs (F : Nat → Int → Nat) (G : Nat → Int → Int) (n : Int)  (k : Int) : List LD := [.i n, .i k] ++ [.i n, .r (RF F G)]
noncomputable def gFs (O : FOps) (nm : Nat → Bool) (u v : Bool) (s : Sk) (F : Nat → Int → Nat) (G : Nat → Int → Int) (n : Int)  (k : Int) : Option (Option XK × List LD × List Bool) := goL (cxN O nm) NFs ⟨hintS [(7, u), (15, v)], fun _ => none⟩ (bodyOf Try.f54 2) 2 60 kFs [] s (DFs F G n  k)
set_option maxRecDepth 100000 in
theorem aFs (O : FOps) (nm : Nat → Bool) (F : Nat → Int → Nat) (G : Nat → Int → Int) (n : Int)  (k : Int) : gFs O nm true false kFs F G n  k = some (none, DFs F G n  (IntKind.i64.wrap (k + 1)), [decide (k < n)] ++ [inb n k, inb n k] ++ [!!nm (F 0 k)] ++ [flatR (RF F G)]) := by kernel_rfl
set_option maxRecDepth 100000 in
theorem bFs (O : FOps) (nm : Nat → Bool) (F : Nat → Int → Nat) (G : Nat → Int → Int) (n : Int)  (k : Int) : gFs O nm true true (rdR 2 2) F G n  k = some (some .ret, [], [decide (k < n)] ++ [inb n k, inb n k] ++ [!nm (F 0 k)]) := by kernel_rfl
set_option maxRecDepth 100000 in
theorem cFs (O : FOps) (nm : Nat → Bool) (F : Nat → Int → Nat) (G : Nat → Int → Int) (n : Int)  (k : Int) : gFs O nm false true eFs F G n  k = some (some (.exit 0), [], [!decide (k < n)]) := by kernel_rfl
theorem lFs (F : Nat → Int → Nat) (G : Nat → Int → Int) (n : Int)  (hn : n ≤ 1048576) : ∀ (m : Nat) (k : Int), 0 ≤ k → k + m = n →
    (eqFrom (fun k => isNum (F 0 k)) k m = true → Loops (cxN fops isNum) NFs (fun _ => none) (bodyOf Try.f54 2) 2 60 kFs (DFs F G n  k) (.exit 0) eFs []) ∧
    (eqFrom (fun k => isNum (F 0 k)) k m = false → Loops (cxN fops isNum) NFs (fun _ => none) (bodyOf Try.f54 2) 2 60 kFs (DFs F G n  k) .ret (rdR 2 2) []) := by
  refine scan_loops (D := DFs F G n ) (n := n) (fun k hk hlt hq => ?_) (fun k hk hlt hq => ?_) ?_
  · have r := aFs fops isNum F G n  k
    rw [wrap_succ hk (by omega)] at r
    exact .mk _ (ρ := []) r (AllT.app (AllT.app (AllT.app (AllT.one' (by simpa using hlt)) (AllT.cons (inb_ok hk hlt) (AllT.one' (inb_ok hk hlt)))) (AllT.one' (by rw [hq]; rfl))) (AllT.one' (rowK_flat _ _ _)))
  · exact .mk _ (ρ := []) (bFs fops isNum F G n  k) (AllT.app (AllT.app (AllT.one' (by simpa using hlt)) (AllT.cons (inb_ok hk hlt) (AllT.one' (inb_ok hk hlt)))) (AllT.one' (by rw [hq]; rfl)))
  · exact .mk _ (ρ := []) (cFs fops isNum F G n  n) (AllT.one' (by simp))
def PFs (n k N : Int) (row : Int → List SC) : Prop := k = 0 ∧ N = n ∧ 0 ≤ n ∧ n ≤ 1048576 ∧ Shape SlFloat32.ts row
noncomputable def FFs (O : FOps) (nm : Nat → Bool) : List LD → Option (XO × List Bool)
  | [.i n, .i k, .i N, .r row] => some ([(.s (!all1 (fun x => nm x) n row), .ret, (rdR 2 2), []), (.t, .exit 0, eFs, [])], [pB (PFs n k N row)])
  | _ => none
noncomputable def LFs (O : FOps) (nm : Nat → Bool) : List Ly → Top → Option Outs := orIter (cxN O nm) NFs (bodyOf Try.f54 2) (loopL NFs 2 60 kFs [] (FFs O nm))
set_option maxRecDepth 100000 in
theorem oFs : CodeOK Try.prog NFs (.loop (bodyOf Try.f54 2)) (LFs fops isNum) := by
  refine orIter_ok (l := LN isNum) okLN mixed 8 (loopL_ok (cx := cxN fops isNum) (lp := fun _ => none) (fun ts => body_ok (l := LN isNum) okLN mixed 8 _ ts) fun p r hr hob => ?_)
  unfold FFs at hr
  split at hr <;> cases hr
  rename_i n k N row
  obtain ⟨e1, e2, h0, hm, s0⟩ := pB_iff.1 hob.head
  rw [e1, e2]
  obtain ⟨h1, h2⟩ := lFs (datF row) (datG row) n  hm n.toNat 0 (Int.le_refl _) (by omega)
  unfold DFs at h1 h2
  rw [← (show row = RF (datF row) (datG row) from s0)] at h1 h2
  cases hq : eqFrom (fun k => isNum (datF row 0 k)) 0 n.toNat with
  | true => exact ⟨_, _, _, by simp [pickX, SB.val, all1, hq], h1 hq⟩
  | false => exact ⟨_, _, _, by simp [pickX, SB.val, all1, hq], h2 hq⟩
set_option maxRecDepth 100000 in
theorem CFs : CallOK Try.prog 54 (inl (cxN fops isNum) Try.f54 ⟨fun _ => none, lpOf [(2, LFs fops isNum)]⟩) := by
  have hb : Try.f54.body.isSome = true := by kernel_rfl
  obtain ⟨c, hc⟩ := Option.isSome_iff_exists.1 hb
  have h1 : (match Try.f54.body with | some c => onceB (loopsIn c) && (match loopAt 2 (loopsIn c) with | some _ => true | none => false) | none => false) = true := by kernel_rfl
  rw [hc] at h1
  simp only [Bool.and_eq_true] at h1
  exact inlL_of (l := LN isNum) (ls := [(2, LFs fops isNum)]) okLN mixed 8 Try.func54 (by kernel_rfl) (fun _ => none) hc h1.1 ⟨⟨_, bodyOf_at hc h1.2, oFs⟩, trivial⟩
/-! ### impl.isSmoke -/
noncomputable def NIi : Nat := Try.f57.ntmps
noncomputable def kIi : Sk := ⟨[(12, .c (.sl 1 0 1 false)), (13, .c (.int .i64)), (14, .c (.int .i64))], [(1, ⟨false, false, .rows 1⟩)], 3⟩
noncomputable def eIi : Sk := ⟨[], [], 3⟩
noncomputable def DIi (F : Nat → Int → Nat) (G : Nat → Int → Int) (n : Int)  (k : Int) : List LD := [.i n, .i n, .i k] ++ [.i n, .r (RF F G)]
noncomputable def gIi (O : FOps) (nm : Nat → Bool) (u v : Bool) (s : Sk) (F : Nat → Int → Nat) (G : Nat → Int → Int) (n : Int)  (k : Int) : Option (Option XK × List LD × List Bool) := goL (cxN O nm) NIi ⟨hintS [(15, u), (20, v)], fun _ => none⟩ (bodyOf Try.f57 4) 3 60 kIi [] s (DIi F G n  k)
set_option maxRecDepth 100000 in
theorem aIi (O : FOps) (nm : Nat → Bool) (F : Nat → Int → Nat) (G : Nat → Int → Int) (n : Int)  (k : Int) : gIi O nm true false kIi F G n  k = some (none, DIi F G n  (IntKind.i64.wrap (k + 1)), [decide (k < n)] ++ [inb n k, inb n k] ++ [!!hot O (F 0 k)] ++ [flatR (RF F G)]) := by kernel_rfl
set_option maxRecDepth 100000 in
theorem bIi (O : FOps) (nm : Nat → Bool) (F : Nat → Int → Nat) (G : Nat → Int → Int) (n : Int)  (k : Int) : gIi O nm true true (rdR 4 3) F G n  k = some (some .ret, [], [decide (k < n)] ++ [inb n k, inb n k] ++ [!hot O (F 0 k)]) := by kernel_rfl
set_option maxRecDepth 100000 in
theorem cIi (O : FOps) (nm : Nat → Bool) (F : Nat → Int → Nat) (G : Nat → Int → Int) (n : Int)  (k : Int) : gIi O nm false true eIi F G n  k = some (some (.exit 0), [], [!decide (k < n)]) := by kernel_rfl
theorem lIi (F : Nat → Int → Nat) (G : Nat → Int → Int) (n : Int)  (hn : n ≤ 1048576) : ∀ (m : Nat) (k : Int), 0 ≤ k → k + m = n →
    (eqFrom (fun k => hot fops (F 0 k)) k m = true → Loops (cxN fops isNum) NIi (fun _ => none) (bodyOf Try.f57 4) 3 60 kIi (DIi F G n  k) (.exit 0) eIi []) ∧
    (eqFrom (fun k => hot fops (F 0 k)) k m = false → Loops (cxN fops isNum) NIi (fun _ => none) (bodyOf Try.f57 4) 3 60 kIi (DIi F G n  k) .ret (rdR 4 3) []) := by
  refine scan_loops (D := DIi F G n ) (n := n) (fun k hk hlt hq => ?_) (fun k hk hlt hq => ?_) ?_
  · have r := aIi fops isNum F G n  k
    rw [wrap_succ hk (by omega)] at r
    exact .mk _ (ρ := []) r (AllT.app (AllT.app (AllT.app (AllT.one' (by simpa using hlt)) (AllT.cons (inb_ok hk hlt) (AllT.one' (inb_ok hk hlt)))) (AllT.one' (by rw [hq]; rfl))) (AllT.one' (rowK_flat _ _ _)))
  · exact .mk _ (ρ := []) (bIi fops isNum F G n  k) (AllT.app (AllT.app (AllT.one' (by simpa using hlt)) (AllT.cons (inb_ok hk hlt) (AllT.one' (inb_ok hk hlt)))) (AllT.one' (by rw [hq]; rfl)))
  · exact .mk _ (ρ := []) (cIi fops isNum F G n  n) (AllT.one' (by simp))
def PIi (l2 n k N : Int) (row : Int → List SC) : Prop := l2 = n ∧ k = 0 ∧ N = n ∧ 0 ≤ n ∧ n ≤ 1048576 ∧ Shape SlFloat32.ts row
noncomputable def FIi (O : FOps) (nm : Nat → Bool) : List LD → Option (XO × List Bool)
  | [.i n, .i l2, .i k, .i N, .r row] => some ([(.s (!all1 (fun x => hot O x) n row), .ret, (rdR 4 3), []), (.t, .exit 0, eIi, [])], [pB (PIi l2 n k N row)])
  | _ => none
noncomputable def LIi (O : FOps) (nm : Nat → Bool) : List Ly → Top → Option Outs := orIter (cxN O nm) NIi (bodyOf Try.f57 4) (loopL NIi 3 60 kIi [] (FIi O nm))
set_option maxRecDepth 100000 in
theorem oIi : CodeOK Try.prog NIi (.loop (bodyOf Try.f57 4)) (LIi fops isNum) := by
  refine orIter_ok (l := LN isNum) okLN mixed 8 (loopL_ok (cx := cxN fops isNum) (lp := fun _ => none) (fun ts => body_ok (l := LN isNum) okLN mixed 8 _ ts) fun p r hr hob => ?_)
  unfold FIi at hr
  split at hr <;> cases hr
  rename_i n l2 k N row
  obtain ⟨e0, e1, e2, h0, hm, s0⟩ := pB_iff.1 hob.head
  rw [e0, e1, e2]
  obtain ⟨h1, h2⟩ := lIi (datF row) (datG row) n  hm n.toNat 0 (Int.le_refl _) (by omega)
  unfold DIi at h1 h2
  rw [← (show row = RF (datF row) (datG row) from s0)] at h1 h2
  cases hq : eqFrom (fun k => hot fops (datF row 0 k)) 0 n.toNat with
  | true => exact ⟨_, _, _, by simp [pickX, SB.val, all1, hq], h1 hq⟩
  | false => exact ⟨_, _, _, by simp [pickX, SB.val, all1, hq], h2 hq⟩
set_option maxRecDepth 100000 in
theorem CIi : CallOK Try.prog 57 (inl (cxN fops isNum) Try.f57 ⟨fun _ => none, lpOf [(4, LIi fops isNum)]⟩) := by
  have hb : Try.f57.body.isSome = true := by kernel_rfl
  obtain ⟨c, hc⟩ := Option.isSome_iff_exists.1 hb
  have h1 : (match Try.f57.body with | some c => onceB (loopsIn c) && (match loopAt 4 (loopsIn c) with | some _ => true | none => false) | none => false) = true := by kernel_rfl
  rw [hc] at h1
  simp only [Bool.and_eq_true] at h1
  exact inlL_of (l := LN isNum) (ls := [(4, LIi fops isNum)]) okLN mixed 8 Try.func57 (by kernel_rfl) (fun _ => none) hc h1.1 ⟨⟨_, bodyOf_at hc h1.2, oIi⟩, trivial⟩
/-! ### spec.l03Smokes -/
noncomputable def NSs : Nat := Try.f53.ntmps
noncomputable def kSs : Sk := ⟨[(0, .c (.sl 2 0 5 false)), (1, .c (.sl 1 0 1 false)), (5, .c (.int .i64))], [(1, ⟨false, false, .rows 1⟩)], 3⟩
noncomputable def eSs : Sk := ⟨[(0, .c (.sl 2 0 5 false)), (1, .c (.sl 1 0 1 false))], [], 3⟩
noncomputable def DSs (F : Nat → Int → Nat) (G : Nat → Int → Int) (n : Int) (c : Int) (k : Int) : List LD := [.i c, .i n, .i k] ++ [.i n, .r (RF F G)]
noncomputable def gSs (O : FOps) (nm : Nat → Bool) (u v : Bool) (s : Sk) (F : Nat → Int → Nat) (G : Nat → Int → Int) (n : Int) (c : Int) (k : Int) : Option (Option XK × List LD × List Bool) := goL (cxN O nm) NSs ⟨hintS [(9, u), (17, v)], fun _ => none⟩ (bodyOf Try.f53 2) 3 60 kSs [] s (DSs F G n c k)
set_option maxRecDepth 100000 in
theorem aSs (O : FOps) (nm : Nat → Bool) (F : Nat → Int → Nat) (G : Nat → Int → Int) (n : Int) (c : Int) (k : Int) : gSs O nm true false kSs F G n c k = some (none, DSs F G n c (IntKind.i64.wrap (k + 1)), [decide (k < n)] ++ [inb n k, inb n k] ++ [!!hot O (F 0 k)] ++ [flatR (RF F G)]) := by kernel_rfl
set_option maxRecDepth 100000 in
theorem bSs (O : FOps) (nm : Nat → Bool) (F : Nat → Int → Nat) (G : Nat → Int → Int) (n : Int) (c : Int) (k : Int) : gSs O nm true true (rdR 4 3) F G n c k = some (some .ret, [], [decide (k < n)] ++ [inb n k, inb n k] ++ [!hot O (F 0 k)]) := by kernel_rfl
set_option maxRecDepth 100000 in
theorem cSs (O : FOps) (nm : Nat → Bool) (F : Nat → Int → Nat) (G : Nat → Int → Int) (n : Int) (c : Int) (k : Int) : gSs O nm false true eSs F G n c k = some (some (.exit 0), [.i c, .i n], [!decide (k < n)]) := by kernel_rfl
theorem lSs (F : Nat → Int → Nat) (G : Nat → Int → Int) (n : Int) (c : Int) (hn : n ≤ 1048576) : ∀ (m : Nat) (k : Int), 0 ≤ k → k + m = n →
    (eqFrom (fun k => hot fops (F 0 k)) k m = true → Loops (cxN fops isNum) NSs (fun _ => none) (bodyOf Try.f53 2) 3 60 kSs (DSs F G n c k) (.exit 0) eSs [.i c, .i n]) ∧
    (eqFrom (fun k => hot fops (F 0 k)) k m = false → Loops (cxN fops isNum) NSs (fun _ => none) (bodyOf Try.f53 2) 3 60 kSs (DSs F G n c k) .ret (rdR 4 3) []) := by
  refine scan_loops (D := DSs F G n c) (n := n) (fun k hk hlt hq => ?_) (fun k hk hlt hq => ?_) ?_
  · have r := aSs fops isNum F G n c k
    rw [wrap_succ hk (by omega)] at r
    exact .mk _ (ρ := []) r (AllT.app (AllT.app (AllT.app (AllT.one' (by simpa using hlt)) (AllT.cons (inb_ok hk hlt) (AllT.one' (inb_ok hk hlt)))) (AllT.one' (by rw [hq]; rfl))) (AllT.one' (rowK_flat _ _ _)))
  · exact .mk _ (ρ := []) (bSs fops isNum F G n c k) (AllT.app (AllT.app (AllT.one' (by simpa using hlt)) (AllT.cons (inb_ok hk hlt) (AllT.one' (inb_ok hk hlt)))) (AllT.one' (by rw [hq]; rfl)))
  · exact .mk _ (ρ := []) (cSs fops isNum F G n c n) (AllT.one' (by simp))
def PSs (n k N : Int) (row : Int → List SC) : Prop := k = 0 ∧ N = n ∧ 0 ≤ n ∧ n ≤ 1048576 ∧ Shape SlFloat32.ts row
noncomputable def FSs (O : FOps) (nm : Nat → Bool) : List LD → Option (XO × List Bool)
  | [.i c, .i n, .i k, .i N, .r row] => some ([(.s (!all1 (fun x => hot O x) n row), .ret, (rdR 4 3), []), (.t, .exit 0, eSs, [.i c, .i n])], [pB (PSs n k N row)])
  | _ => none
noncomputable def LSs (O : FOps) (nm : Nat → Bool) : List Ly → Top → Option Outs := orIter (cxN O nm) NSs (bodyOf Try.f53 2) (loopL NSs 3 60 kSs [] (FSs O nm))
set_option maxRecDepth 100000 in
theorem oSs : CodeOK Try.prog NSs (.loop (bodyOf Try.f53 2)) (LSs fops isNum) := by
  refine orIter_ok (l := LN isNum) okLN mixed 8 (loopL_ok (cx := cxN fops isNum) (lp := fun _ => none) (fun ts => body_ok (l := LN isNum) okLN mixed 8 _ ts) fun p r hr hob => ?_)
  unfold FSs at hr
  split at hr <;> cases hr
  rename_i c n k N row
  obtain ⟨e1, e2, h0, hm, s0⟩ := pB_iff.1 hob.head
  rw [e1, e2]
  obtain ⟨h1, h2⟩ := lSs (datF row) (datG row) n c hm n.toNat 0 (Int.le_refl _) (by omega)
  unfold DSs at h1 h2
  rw [← (show row = RF (datF row) (datG row) from s0)] at h1 h2
  cases hq : eqFrom (fun k => hot fops (datF row 0 k)) 0 n.toNat with
  | true => exact ⟨_, _, _, by simp [pickX, SB.val, all1, hq], h1 hq⟩
  | false => exact ⟨_, _, _, by simp [pickX, SB.val, all1, hq], h2 hq⟩
set_option maxRecDepth 100000 in
theorem CSs : CallOK Try.prog 53 (inl (cxN fops isNum) Try.f53 ⟨fun _ => none, lpOf [(2, LSs fops isNum)]⟩) := by
  have hb : Try.f53.body.isSome = true := by kernel_rfl
  obtain ⟨c, hc⟩ := Option.isSome_iff_exists.1 hb
  have h1 : (match Try.f53.body with | some c => onceB (loopsIn c) && (match loopAt 2 (loopsIn c) with | some _ => true | none => false) | none => false) = true := by kernel_rfl
  rw [hc] at h1
  simp only [Bool.and_eq_true] at h1
  exact inlL_of (l := LN isNum) (ls := [(2, LSs fops isNum)]) okLN mixed 8 Try.func53 (by kernel_rfl) (fun _ => none) hc h1.1 ⟨⟨_, bodyOf_at hc h1.2, oSs⟩, trivial⟩
end
end Go.Proofs.Ytaoeigofmfpamaa.Smk
end

/- SmokeInto's tests, told by hand. Nothing is assumed. -/
section
namespace Go.Proofs.Ytaoeigofmfpamaa.Smk
open Go
noncomputable section
noncomputable def r2 (S : CS) (f1 f2 w1 o1 w2 o2 : Bool) (n c N C : Int) (row rc : Int → List SC) : Option CEff := S 3 [.c (.sl 2 0 5 (.s c) f2), .c (.sl 1 0 1 (.s n) f1)] [(1, ⟨w1, o1, .rows 1 N row⟩), (2, ⟨w2, o2, .rows 5 C rc⟩)]
noncomputable def r1 (S : CS) (f1 w1 o1 : Bool) (n N : Int) (row : Int → List SC) : Option CEff := S 2 [.c (.sl 1 0 1 (.s n) f1)] [(1, ⟨w1, o1, .rows 1 N row⟩)]
set_option maxRecDepth 100000 in
theorem rFs (O : FOps) (nm : Nat → Bool) (f1 w1 o1 : Bool) (n N : Int) (row : Int → List SC) : r1 (roS (inl (cxN O nm) Try.f54 ⟨fun _ => none, lpOf [(2, LFs O nm)]⟩)) f1 w1 o1 n N row = some ⟨.c (.bool (.s (bif !all1 (fun x => nm x) n row then false else true))), [], 60, [flatR row, pB (PFs n 0 N row)]⟩ := by kernel_rfl
set_option maxRecDepth 100000 in
theorem rIi (O : FOps) (nm : Nat → Bool) (f1 f2 w1 o1 w2 o2 : Bool) (n c N C : Int) (row rc : Int → List SC) : r2 (roS (inl (cxN O nm) Try.f57 ⟨fun _ => none, lpOf [(4, LIi O nm)]⟩)) f1 f2 w1 o1 w2 o2 n c N C row rc = some ⟨.c (.bool (.s (bif !decide (n = c) then false else bif !all1 (fun x => hot O x) n row then false else true))), [], 60, gdB (!decide (n = c)) [flatR row, pB (PIi n n 0 N row)]⟩ := by kernel_rfl
set_option maxRecDepth 100000 in
theorem rSs (O : FOps) (nm : Nat → Bool) (f1 f2 w1 o1 w2 o2 : Bool) (n c N C : Int) (row rc : Int → List SC) : r2 (roS (inl (cxN O nm) Try.f53 ⟨fun _ => none, lpOf [(2, LSs O nm)]⟩)) f1 f2 w1 o1 w2 o2 n c N C row rc = some ⟨.c (.bool (.s (bif !all1 (fun x => hot O x) n row then false else decide (n = c)))), [], 60, [flatR row, pB (PSs n 0 N row)]⟩ := by kernel_rfl
/-- The list is smoke of so many flues. -/
noncomputable def smkB (O : FOps) (n c : Int) (row : Int → List SC) : Bool := bif decide (n = c) then all1 (fun x => hot O x) n row else false
theorem smkI (O : FOps) (n c : Int) (row : Int → List SC) : (bif !decide (n = c) then false else bif !all1 (fun x => hot O x) n row then false else true) = smkB O n c row := by
  unfold smkB
  cases decide (n = c) <;> cases all1 (fun x => hot O x) n row <;> rfl
theorem smkS (O : FOps) (n c : Int) (row : Int → List SC) : (bif !all1 (fun x => hot O x) n row then false else decide (n = c)) = smkB O n c row := by
  unfold smkB
  cases decide (n = c) <;> cases all1 (fun x => hot O x) n row <;> rfl
noncomputable def sbH (O : FOps) : CS := fun base args rd => match args with
  | [.c (.sl i2 o2 es2 (.s c) _), .c (.sl i1 o1 es1 (.s n) _)] => match rd with
    | [(j1, ⟨_, _, .rows st1 N row⟩), (j2, ⟨_, _, .rows st2 C rc⟩)] =>
      match Nat.beq base 3 && (Nat.beq i2 2 && (Nat.beq o2 0 && (Nat.beq es2 5 && (Nat.beq i1 1 && (Nat.beq o1 0 && (Nat.beq es1 1 && (Nat.beq j1 1 && (Nat.beq j2 2 && (Nat.beq st1 1 && Nat.beq st2 5))))))))) with
      | true => some ⟨.c (.bool (.s (smkB O n c row))), [], 60, [SlFloat32.okN n N row]⟩
      | false => none
    | _ => none
  | _ => none
set_option maxRecDepth 100000 in
theorem tIi : CallOK Try.prog 57 (canS (sbH fops)) := CallOK.can (CallOK.hand (H := sbH fops) CIi.ro fun b args rd e h hob => by
  unfold sbH at h
  split at h <;> try (cases h; done)
  rename_i i2 o2 es2 c f2 i1 o1 es1 n f1
  split at h <;> try (cases h; done)
  rename_i j1 w1 p1 st1 N row j2 w2 p2 st2 C rc
  split at h <;> cases h
  rename_i hc
  simp only [Bool.and_eq_true, beqN] at hc
  obtain ⟨rfl, rfl, rfl, rfl, rfl, rfl, rfl, rfl, rfl, rfl, rfl⟩ := hc
  obtain ⟨e, h0, hm, hs⟩ := pB_iff.1 hob.head
  subst e
  have r := rIi fops isNum f1 f2 w1 p1 w2 p2 N c N C row rc
  rw [smkI] at r
  exact ⟨_, r, gdB_ok fun _ => AllT.cons (SlFloat32.shape_flat hs) (AllT.one' (pB_iff.2 ⟨rfl, rfl, rfl, h0, hm, hs⟩))⟩)
set_option maxRecDepth 100000 in
theorem tSs : CallOK Try.prog 53 (canS (sbH fops)) := CallOK.can (CallOK.hand (H := sbH fops) CSs.ro fun b args rd e h hob => by
  unfold sbH at h
  split at h <;> try (cases h; done)
  rename_i i2 o2 es2 c f2 i1 o1 es1 n f1
  split at h <;> try (cases h; done)
  rename_i j1 w1 p1 st1 N row j2 w2 p2 st2 C rc
  split at h <;> cases h
  rename_i hc
  simp only [Bool.and_eq_true, beqN] at hc
  obtain ⟨rfl, rfl, rfl, rfl, rfl, rfl, rfl, rfl, rfl, rfl, rfl⟩ := hc
  obtain ⟨e, h0, hm, hs⟩ := pB_iff.1 hob.head
  subst e
  have r := rSs fops isNum f1 f2 w1 p1 w2 p2 N c N C row rc
  rw [smkS] at r
  exact ⟨_, r, AllT.cons (SlFloat32.shape_flat hs) (AllT.one' (pB_iff.2 ⟨rfl, rfl, h0, hm, hs⟩))⟩)
set_option maxRecDepth 100000 in
theorem tFs : CallOK Try.prog 54 (canS (Fnr.frH isNum)) := CallOK.can (CallOK.hand (H := Fnr.frH isNum) CFs.ro fun b args rd e h hob => by
  unfold Fnr.frH at h
  split at h <;> try (cases h; done)
  rename_i i o es n f
  split at h <;> try (cases h; done)
  rename_i j w p st N row
  split at h <;> cases h
  rename_i hc
  simp only [Bool.and_eq_true, beqN] at hc
  obtain ⟨rfl, rfl, rfl, rfl, rfl, rfl⟩ := hc
  obtain ⟨e, h0, hm, hs⟩ := pB_iff.1 hob.head
  subst e
  exact ⟨_, rFs fops isNum f w p N N row, AllT.cons (SlFloat32.shape_flat hs) (AllT.one' (pB_iff.2 ⟨rfl, rfl, h0, hm, hs⟩))⟩)
end
end Go.Proofs.Ytaoeigofmfpamaa.Smk
end

/- The law SmokeInto: what its text computes. Nothing is assumed. -/
section
namespace Go.Proofs.Ytaoeigofmfpamaa.Smk
open Go
noncomputable section
noncomputable def LLn (O : FOps) (nm : Nat → Bool) : List (Nat × CS) := (59, canS (smH O)) :: (55, canS (smH O)) :: (57, canS (sbH O)) :: (53, canS (sbH O)) :: (54, canS (Fnr.frH nm)) :: (58, Fnr.frS nm) ::
  (22, SlFloat32.toC O) :: (24, SlFloat32.eqC O) :: (26, SlFloat32.maC O) :: (27, SlFloat32.heC O) :: (73, amtS) :: (90, amtS) ::
  (16, SlFlue.toC O) :: (18, SlFlue.eqC O) :: (25, SlFlue.maC O) :: (84, Chy.vIC O) :: (51, Chy.vSC O) :: []
set_option maxRecDepth 100000 in
theorem okLL : AllOK Try.prog (LLn fops isNum) := ⟨cSmI, cSmS, tIi, tSs, tFs, Fnr.cFr, SlFloat32.cToC, SlFloat32.cEqC, SlFloat32.cMaC, SlFloat32.cHeC, cAmtI, cAmtL, SlFlue.cToC, SlFlue.cEqC, SlFlue.cMaC, Chy.cVI, Chy.cVS, trivial⟩
noncomputable def cxL (O : FOps) (nm : Nat → Bool) : Cx := ⟨Try.prog, O, orcN Try.prog O (LLn O nm) 8⟩
abbrev HH := List (Nat × Bool) × List (Nat × Bool)
noncomputable def hOK : HH := ([(16, false), (33, false), (41, false)], [(13, false), (35, false), (44, false)])
noncomputable def hE1 : HH := ([(16, true)], [(13, true)])
noncomputable def hE2a : HH := ([(16, true)], [(13, false), (35, true)])
noncomputable def hE2b : HH := ([(16, false), (33, true)], [(13, false), (35, true)])
noncomputable def hE4 : HH := ([(16, false), (33, false), (41, true)], [(13, false), (35, false), (44, true)])
noncomputable def hLaw : List (Nat × Bool) := [(24, false), (27, false), (32, false), (66, false), (71, false), (76, false), (81, false), (103, false), (111, false), (114, false), (134, false), (139, false), (142, false)]
noncomputable def L3 (O : FOps) (nm : Nat → Bool) (h : HH) : List (Nat × CS) := (23, inl (cxL O nm) Try.f23 ⟨hintS h.1, fun _ => none⟩) :: (21, inl (cxL O nm) Try.f21 ⟨hintS h.2, fun _ => none⟩) :: LLn O nm
set_option maxRecDepth 100000 in
theorem okL3 (h : HH) : AllOK Try.prog (L3 fops isNum h) :=
  ⟨inlN_of (l := LLn fops isNum) okLL mixed 8 Try.func23 (by kernel_rfl) _, inlN_of (l := LLn fops isNum) okLL mixed 8 Try.func21 (by kernel_rfl) _, okLL⟩
noncomputable def run (O : FOps) (nm : Nat → Bool) (h : HH) (hl : List (Nat × Bool)) (v1 v2 v3 : SV) (rd : List (Nat × Seg)) (t : Nat) : Option (SV × List Bool) :=
  rE 4 (inl ⟨Try.prog, O, orcN Try.prog O (L3 O nm h) 8⟩ Try.f6 ⟨hintS hl, fun _ => none⟩ 4 [v1, v2, v3, .c (.flt .f32 t)] rd)
/-- The arguments: the chimney, the smoke, the flows. -/
structure AD where
  Fc : Nat → Int → Nat
  Gc : Nat → Int → Int
  Fs : Nat → Int → Nat
  Gs : Nat → Int → Int
  Ff : Nat → Int → Nat
  Gf : Nat → Int → Int
  n : Int
  m : Int
  l : Int
noncomputable def AD.rd (x : AD) : List (Nat × Seg) := [(1, ⟨false, false, .rows 5 x.n (RC x.Fc x.Gc)⟩), (2, ⟨false, false, .rows 1 x.m (RF x.Fs x.Gs)⟩), (3, ⟨false, false, .rows 1 x.l (RF x.Ff x.Gf)⟩)]
noncomputable def slA (i es : Nat) (n : Int) : SV := .c (.sl i 0 es (.s n) false)
noncomputable def sl0 (i es : Nat) : SV := .c (.sl i 0 es (.c 0) false)
noncomputable def runA (O : FOps) (nm : Nat → Bool) (h : HH) (hl : List (Nat × Bool)) (x : AD) (t : Nat) : Option (SV × List Bool) := run O nm h hl (slA 1 5 x.n) (slA 2 1 x.m) (slA 3 1 x.l) x.rd t
noncomputable def AD.C0 (x : AD) : Int → List SC := SlFlue.cpR x.n (RC x.Fc x.Gc)
noncomputable def AD.S0 (x : AD) : Int → List SC := SlFloat32.cpR x.m (RF x.Fs x.Gs)
noncomputable def AD.W0 (x : AD) : Int → List SC := SlFloat32.cpR x.l (RF x.Ff x.Gf)
/-! ### what is asked -/
noncomputable def cC (x : AD) : List Bool := [flatR (RC x.Fc x.Gc), flatR x.C0, SlFlue.okN x.n x.n (RC x.Fc x.Gc)]
noncomputable def cS (x : AD) : List Bool := [flatR (RF x.Fs x.Gs), flatR x.S0, SlFloat32.okN x.m x.m (RF x.Fs x.Gs)]
noncomputable def cF (x : AD) : List Bool := [flatR (RF x.Ff x.Gf), flatR x.W0, SlFloat32.okN x.l x.l (RF x.Ff x.Gf)]
noncomputable def cAll (x : AD) : List Bool := cC x ++ cS x ++ cF x
noncomputable def eC (O : FOps) (x : AD) : List Bool := [flatR x.C0, flatR x.C0, SlFlue.okE' x.n x.n x.C0 x.n x.n x.C0, !!SlFlue.eqR O x.n x.n x.C0 x.C0]
noncomputable def eS (O : FOps) (x : AD) : List Bool := [flatR x.S0, flatR x.S0, SlFloat32.okE' x.m x.m x.S0 x.m x.m x.S0, !!SlFloat32.eqR O x.m x.m x.S0 x.S0]
noncomputable def eF (O : FOps) (x : AD) : List Bool := [flatR x.W0, flatR x.W0, SlFloat32.okE' x.l x.l x.W0 x.l x.l x.W0, !!SlFloat32.eqR O x.l x.l x.W0 x.W0]
noncomputable def u1 (x : AD) : Int := 1 + 5 * x.n
noncomputable def u2 (x : AD) : Int := u1 x + 1 * x.m
noncomputable def u3 (x : AD) : Int := u2 x + 1 * x.l
noncomputable def ng (x : AD) : Bool := decide (u3 x < 0)
noncomputable def oM (O : FOps) (x : AD) : List Bool := [flatR x.C0, flatR (SlFlue.mkR O 1 x.n x.C0), SlFlue.okM' x.n 1 x.n x.C0, flatR x.S0, flatR (SlFloat32.mkR O (u1 x) x.m x.S0), SlFloat32.okM' x.m (u1 x) x.m x.S0, flatR x.W0, flatR (SlFloat32.mkR O (u2 x) x.l x.W0), SlFloat32.okM' x.l (u2 x) x.l x.W0]
noncomputable def V (O : FOps) (x : AD) : Bool := Chy.vC O x.n x.C0
noncomputable def oV (x : AD) : List Bool := [flatR x.C0, SlFlue.okN x.n x.n x.C0]
noncomputable def outB (O : FOps) (t : Nat) : Bool := bif O.cmp .geq .f32 t 3262119936 then O.cmp .leq .f32 t 1114636288 else false
noncomputable def pz (O : FOps) : Bool := bif O.cmp .geq .f32 0 3296329728 then O.cmp .leq .f32 0 1148846080 else false
noncomputable def wc (O : FOps) (x : AD) (t : Nat) : Int := bif !V O x then 1 else bif !!V O x && (bif !outB O t then true else bif pz O then false else true) then 2 else 0
noncomputable def smB (O : FOps) (x : AD) : Bool := smkB O x.m x.n x.S0
noncomputable def rI (O : FOps) (nm : Nat → Bool) (x : AD) : Bool := bif !smB O x then true else bif !decide (x.l = x.n) then true else !Fnr.finN nm x.l x.W0
noncomputable def rS (O : FOps) (nm : Nat → Bool) (x : AD) (t : Nat) : Bool := bif !outB O t then true else rI O nm x
noncomputable def oT (O : FOps) (x : AD) : List Bool := [flatR x.S0, flatR x.C0, SlFloat32.okN x.m x.m x.S0] ++ gdB (!smB O x) (gdB (!decide (x.l = x.n)) [flatR x.W0, SlFloat32.okN x.l x.l x.W0])
noncomputable def Rr (O : FOps) (x : AD) (t : Nat) : Int → List SC := RowX (svR O x.n t x.W0 x.S0 x.C0)
noncomputable def oR (O : FOps) (x : AD) (t : Nat) : List Bool := [flatR x.W0, flatR x.S0, flatR x.C0, flatR (Rr O x t), okH x.l x.m x.n x.l x.m x.n x.W0 x.S0 x.C0, flatR (Rr O x t), SlFloat32.okN x.n x.n (Rr O x t)]
noncomputable def sV (O : FOps) (nm : Nat → Bool) (x : AD) (t : Nat) : List Bool := oV x ++ [!!V O x] ++ gdB (!outB O t) (oT O x)
noncomputable def iV (O : FOps) (x : AD) (t : Nat) : List Bool := oV x ++ [!!decide (wc O x t = 0)] ++ oT O x
noncomputable def fin (O : FOps) (nm : Nat → Bool) (x : AD) (t : Nat) : Bool := Fnr.finN nm x.n (Rr O x t)
noncomputable def hd (x : AD) : List Bool := [!decide (1048576 < x.m), !decide (1048576 < x.l), !decide (Chl.lf x.n < 0)]
noncomputable def oZ (O : FOps) (x : AD) (Ss Si q : List Bool) (tz : Bool) : List Bool :=
  hd x ++ cAll x ++ Ss ++ cAll x ++ Si ++ q ++ (cC x ++ eC O x) ++ (cS x ++ eS O x) ++ (cF x ++ eF O x) ++ oM O x ++ [!(bif ng x then true else tz)] ++ cAll x ++ Si ++ q
noncomputable def oQ (O : FOps) (x : AD) (t : Nat) : List Bool := [flatR (Rr O x t), flatR (Rr O x t), SlFloat32.okE' x.n x.n (Rr O x t) x.n x.n (Rr O x t)]
noncomputable def tT (O : FOps) (x : AD) (t : Nat) : Bool := bif !SlFloat32.eqR O x.n x.n (Rr O x t) (Rr O x t) then true else false
noncomputable def oK (O : FOps) (x : AD) (t : Nat) : List Bool := [flatR (SlFloat32.mkR O 1 x.n (Rr O x t)), SlFloat32.okH' x.n 1 x.n (SlFloat32.mkR O 1 x.n (Rr O x t)), !decide (1 + 1 * x.n < 0), !!decide (1 + 1 * x.n = 1 + 1 * x.n)]
noncomputable def sOK (O : FOps) (nm : Nat → Bool) (x : AD) (t : Nat) : List Bool := sV O nm x t ++ [!rS O nm x t] ++ oR O x t ++ [!!fin O nm x t]
noncomputable def iOK (O : FOps) (nm : Nat → Bool) (x : AD) (t : Nat) : List Bool := iV O x t ++ [!rI O nm x] ++ oR O x t ++ [!!fin O nm x t]
noncomputable def oB (O : FOps) (nm : Nat → Bool) (x : AD) (t : Nat) : List Bool :=
  hd x ++ cAll x ++ sOK O nm x t ++ cAll x ++ iOK O nm x t ++ (oQ O x t ++ [!tT O x t]) ++ (cC x ++ eC O x) ++ (cS x ++ eS O x) ++ (cF x ++ eF O x) ++ oM O x ++ (gdB (ng x) (oQ O x t) ++ [!(bif ng x then true else tT O x t)]) ++
  ([flatR (Rr O x t), flatR (SlFloat32.mkR O 1 x.n (Rr O x t)), SlFloat32.okM' x.n 1 x.n (Rr O x t)] ++ oK O x t) ++ cAll x ++ iOK O nm x t ++ (oQ O x t ++ [!tT O x t]) ++ oK O x t
set_option maxRecDepth 100000 in
theorem run0 (O : FOps) (nm : Nat → Bool) (t : Nat) : run O nm hE1 hLaw (sl0 1 5) (sl0 2 1) (sl0 3 1) [] t = some (.c (.bool .t), []) := by kernel_rfl
set_option maxRecDepth 100000 in
theorem run_b1 (O : FOps) (nm : Nat → Bool) (x : AD) (t : Nat) : runA O nm hE1 [(24, true)] x t = some (.c (.bool .t), [decide (1048576 < x.m)]) := by kernel_rfl
set_option maxRecDepth 100000 in
theorem run_b2 (O : FOps) (nm : Nat → Bool) (x : AD) (t : Nat) : runA O nm hE1 [(24, false), (27, true)] x t = some (.c (.bool .t), [!decide (1048576 < x.m), decide (1048576 < x.l)]) := by kernel_rfl
set_option maxRecDepth 100000 in
theorem run_b3 (O : FOps) (nm : Nat → Bool) (x : AD) (t : Nat) : runA O nm hE1 [(24, false), (27, false), (32, true)] x t = some (.c (.bool .t), [!decide (1048576 < x.m), !decide (1048576 < x.l), decide (Chl.lf x.n < 0)]) := by kernel_rfl
set_option maxRecDepth 100000 in
theorem run_e1 (O : FOps) (nm : Nat → Bool) (x : AD) (t : Nat) : runA O nm hE1 hLaw x t = some (.c (.bool .t), oZ O x (oV x ++ [!V O x]) (oV x ++ [!decide (wc O x t = 0)]) [!!decide (wc O x t = 1)] (!decide (wc O x t = 1))) := by kernel_rfl
set_option maxRecDepth 100000 in
theorem run_e2a (O : FOps) (nm : Nat → Bool) (x : AD) (t : Nat) : runA O nm hE2a hLaw x t = some (.c (.bool .t), oZ O x (sV O nm x t ++ [rS O nm x t]) (oV x ++ [!decide (wc O x t = 0)]) [!!decide (wc O x t = 2)] (!decide (wc O x t = 2))) := by kernel_rfl
set_option maxRecDepth 100000 in
theorem run_e2b (O : FOps) (nm : Nat → Bool) (x : AD) (t : Nat) : runA O nm hE2b hLaw x t = some (.c (.bool .t), oZ O x (sV O nm x t ++ [rS O nm x t]) (iV O x t ++ [rI O nm x]) [] false) := by kernel_rfl
set_option maxRecDepth 100000 in
theorem run_e4 (O : FOps) (nm : Nat → Bool) (x : AD) (t : Nat) : runA O nm hE4 hLaw x t = some (.c (.bool .t), oZ O x (sV O nm x t ++ [!rS O nm x t] ++ oR O x t ++ [!fin O nm x t]) (iV O x t ++ [!rI O nm x] ++ oR O x t ++ [!fin O nm x t]) [] false) := by kernel_rfl
set_option maxRecDepth 100000 in
theorem run_ok (O : FOps) (nm : Nat → Bool) (x : AD) (t : Nat) : runA O nm hOK hLaw x t = some (.c (.bool .t), oB O nm x t) := by kernel_rfl
/-! ### all is given -/
structure Sm (x : AD) : Prop where
  a : 0 ≤ x.n ∧ x.n ≤ 1048576
  b : 0 ≤ x.m ∧ x.m ≤ 1048576
  c : 0 ≤ x.l ∧ x.l ≤ 1048576
theorem C0_sh (x : AD) : Shape SlFlue.ts x.C0 := SlFlue.shape_row _ _
theorem S0_sh (x : AD) : Shape SlFloat32.ts x.S0 := SlFloat32.shape_row _ _
theorem W0_sh (x : AD) : Shape SlFloat32.ts x.W0 := SlFloat32.shape_row _ _
theorem Rr_sh (x : AD) (t : Nat) : Shape SlFloat32.ts (Rr fops x t) := SlFloat32.shape_row (fun _ j => svR fops x.n t x.W0 x.S0 x.C0 j) (fun _ _ => 0)
theorem okEf {n : Int} {r : Int → List SC} (h0 : 0 ≤ n) (h1 : n ≤ 1048576) (hs : Shape SlFloat32.ts r) : SlFloat32.okE' n n r n n r = true := by
  unfold SlFloat32.okE'
  have : pB (n = n ∧ n = n ∧ 0 ≤ n ∧ n ≤ 1048576 ∧ Shape SlFloat32.ts r ∧ Shape SlFloat32.ts r) = true := pB_iff.2 ⟨rfl, rfl, h0, h1, hs, hs⟩
  rw [this, Bool.or_true]
theorem okEc {n : Int} {r : Int → List SC} (h0 : 0 ≤ n) (h1 : n ≤ 1048576) (hs : Shape SlFlue.ts r) : SlFlue.okE' n n r n n r = true := by
  unfold SlFlue.okE'
  have : pB (n = n ∧ n = n ∧ 0 ≤ n ∧ n ≤ 1048576 ∧ Shape SlFlue.ts r ∧ Shape SlFlue.ts r) = true := pB_iff.2 ⟨rfl, rfl, h0, h1, hs, hs⟩
  rw [this, Bool.or_true]
theorem cAll_ok {x : AD} (h : Sm x) : AllT (cC x) ∧ AllT (cS x) ∧ AllT (cF x) :=
  ⟨AllT.cons (rowK_flat _ _ _) (AllT.cons (SlFlue.shape_flat (C0_sh x)) (AllT.one' (pB_iff.2 ⟨rfl, h.a.1, h.a.2, SlFlue.shape_row _ _⟩))),
   AllT.cons (rowK_flat _ _ _) (AllT.cons (SlFloat32.shape_flat (S0_sh x)) (AllT.one' (pB_iff.2 ⟨rfl, h.b.1, h.b.2, SlFloat32.shape_row _ _⟩))),
   AllT.cons (rowK_flat _ _ _) (AllT.cons (SlFloat32.shape_flat (W0_sh x)) (AllT.one' (pB_iff.2 ⟨rfl, h.c.1, h.c.2, SlFloat32.shape_row _ _⟩)))⟩
theorem eAll_ok {x : AD} (h : Sm x) : AllT (eC fops x) ∧ AllT (eS fops x) ∧ AllT (eF fops x) :=
  ⟨AllT.cons (SlFlue.shape_flat (C0_sh x)) (AllT.cons (SlFlue.shape_flat (C0_sh x)) (AllT.cons (okEc h.a.1 h.a.2 (C0_sh x)) (AllT.one' (by rw [SlFlue.eqR_self]; rfl)))),
   AllT.cons (SlFloat32.shape_flat (S0_sh x)) (AllT.cons (SlFloat32.shape_flat (S0_sh x)) (AllT.cons (okEf h.b.1 h.b.2 (S0_sh x)) (AllT.one' (by rw [SlFloat32.eqR_self]; rfl)))),
   AllT.cons (SlFloat32.shape_flat (W0_sh x)) (AllT.cons (SlFloat32.shape_flat (W0_sh x)) (AllT.cons (okEf h.c.1 h.c.2 (W0_sh x)) (AllT.one' (by rw [SlFloat32.eqR_self]; rfl))))⟩
theorem oM_ok {x : AD} (h : Sm x) : AllT (oM fops x) := by
  obtain ⟨⟨a0, a1⟩, ⟨b0, b1⟩, ⟨c0, c1⟩⟩ := h
  have e1 : 0 ≤ u1 x ∧ u1 x ≤ 50000000 := by unfold u1; omega
  have e2 : 0 ≤ u2 x ∧ u2 x ≤ 50000000 := by unfold u2 u1; omega
  exact AllT.cons (SlFlue.shape_flat (C0_sh x)) (AllT.cons (SlFlue.shape_flat (SlFlue.shape_row _ _)) (AllT.cons (pB_iff.2 ⟨rfl, a0, a1, by decide, by decide, C0_sh x⟩) (AllT.cons (SlFloat32.shape_flat (S0_sh x)) (AllT.cons (SlFloat32.shape_flat (SlFloat32.shape_row _ _)) (AllT.cons (pB_iff.2 ⟨rfl, b0, b1, e1.1, e1.2, S0_sh x⟩)
    (AllT.cons (SlFloat32.shape_flat (W0_sh x)) (AllT.cons (SlFloat32.shape_flat (SlFloat32.shape_row _ _)) (AllT.one' (pB_iff.2 ⟨rfl, c0, c1, e2.1, e2.2, W0_sh x⟩)))))))))
theorem ng_false {x : AD} (h : Sm x) : ng x = false := by
  obtain ⟨⟨a0, _⟩, ⟨b0, _⟩, ⟨c0, _⟩⟩ := h
  unfold ng u3 u2 u1
  exact decide_eq_false (by omega)
theorem hd_ok {x : AD} (h : Sm x) : AllT (hd x) := by
  obtain ⟨⟨a0, a1⟩, ⟨_, b1⟩, ⟨_, c1⟩⟩ := h
  exact AllT.cons (by simp; omega) (AllT.cons (by simp; omega) (AllT.one' (by rw [Chl.lf_small a0 a1]; rfl)))
theorem oZ_ok {x : AD} (h : Sm x) {Ss Si q : List Bool} {tz : Bool} (hs : AllT Ss) (hi : AllT Si) (hq : AllT q) (ht : tz = false) : AllT (oZ fops x Ss Si q tz) := by
  obtain ⟨c1, c2, c3⟩ := cAll_ok h
  obtain ⟨e1, e2, e3⟩ := eAll_ok h
  have em := oM_ok h
  have eh := hd_ok h
  unfold oZ cAll
  rw [ht, ng_false h]
  simp only [AllT.iffApp]
  repeat' refine And.intro ?_ ?_
  all_goals first | assumption | exact AllT.one' rfl
theorem oV_ok {x : AD} (h : Sm x) : AllT (oV x) := AllT.cons (SlFlue.shape_flat (C0_sh x)) (AllT.one' (pB_iff.2 ⟨rfl, h.a.1, h.a.2, C0_sh x⟩))
theorem oT_ok {x : AD} (h : Sm x) : AllT (oT fops x) :=
  AllT.app (AllT.cons (SlFloat32.shape_flat (S0_sh x)) (AllT.cons (SlFlue.shape_flat (C0_sh x)) (AllT.one' (pB_iff.2 ⟨rfl, h.b.1, h.b.2, S0_sh x⟩))))
    (gdB_ok fun _ => gdB_ok fun _ => AllT.cons (SlFloat32.shape_flat (W0_sh x)) (AllT.one' (pB_iff.2 ⟨rfl, h.c.1, h.c.2, W0_sh x⟩)))
/-- In a valid chimney, who leads into another has none that lead into it. -/
theorem trunkOk {n : Int} {row : Int → List SC} (h0 : 0 ≤ n) (h : Chy.vC fops n row = true) : TrunkOk n row := by
  have hq : eqFrom (Chy.qC fops n (datF row) (datG row)) 0 n.toNat = true := by
    unfold Chy.vC Chy.vC' at h
    cases hg : Chy.rgI n with
    | true => rw [hg] at h; cases h
    | false =>
      rw [hg] at h
      cases he : eqFrom (Chy.qC fops n (datF row) (datG row)) 0 n.toNat with
      | true => rfl
      | false => rw [he] at h; cases h
  intro k k0 k1 hk
  refine brn_none n.toNat 0 0 _ fun j j0 j1 hj => ?_
  have hj1 := eqFrom_at hq j j0 j1
  have hne : datG row 4 k ≠ -1 := of_decide_eq_false hk
  unfold Chy.qC at hj1
  cases hf : Chy.fk fops (datF row) j with
  | false => rw [hf] at hj1; cases hj1
  | true =>
    rw [hf, hj, decide_eq_false (by omega : ¬ k = -1)] at hj1
    have hb : Chy.bI n j k (datG row 4 k) = false := by simpa using hj1
    unfold Chy.bI at hb
    rw [decide_eq_false (by omega : ¬ k < 0), decide_eq_false (by omega : ¬ n ≤ k)] at hb
    cases he : decide (k = j) with
    | true => rw [he] at hb; cases hb
    | false =>
      rw [he] at hb
      have : decide (datG row 4 k = -1) = true := by simpa using hb
      exact hne (of_decide_eq_true this)
theorem oR_ok {x : AD} (h : Sm x) (hv : V fops x = true) (hr : rI fops isNum x = false) (t : Nat) : AllT (oR fops x t) := by
  have h6 := Chl.vC_six hv
  unfold rI at hr
  cases h1 : smB fops x with
  | false => rw [h1] at hr; cases hr
  | true =>
    cases h2 : decide (x.l = x.n) with
    | false => rw [h1, h2] at hr; cases hr
    | true =>
      have e2 : x.l = x.n := of_decide_eq_true h2
      have e1 : x.m = x.n := by
        unfold smB smkB at h1
        cases h3 : decide (x.m = x.n) with
        | true => exact of_decide_eq_true h3
        | false => rw [h3] at h1; cases h1
      have hs := Rr_sh x t
      exact AllT.cons (SlFloat32.shape_flat (W0_sh x)) (AllT.cons (SlFloat32.shape_flat (S0_sh x)) (AllT.cons (SlFlue.shape_flat (C0_sh x)) (AllT.cons (SlFloat32.shape_flat hs) (AllT.cons (pB_iff.2 ⟨⟨rfl, e1, e2, e2, e1⟩, h.a.1, by omega, W0_sh x, S0_sh x, C0_sh x, trunkOk h.a.1 hv⟩) (AllT.cons (SlFloat32.shape_flat hs) (AllT.one' (pB_iff.2 ⟨rfl, h.a.1, h.a.2, hs⟩)))))))
theorem pz_true : pz fops = true := by decide +kernel
theorem wc_val (x : AD) (t : Nat) : wc fops x t = bif !V fops x then 1 else bif !outB fops t then 2 else 0 := by
  unfold wc
  rw [pz_true]
  cases V fops x <;> cases outB fops t <;> rfl
theorem oK_ok {x : AD} (h : Sm x) (t : Nat) : AllT (oK fops x t) := by
  refine AllT.cons (SlFloat32.shape_flat (SlFloat32.shape_row _ _)) (AllT.cons (pB_iff.2 ⟨rfl, h.a.1, h.a.2, by decide, by decide, SlFloat32.mkR_marked _ _ _⟩) (AllT.cons ?_ (AllT.one' (by simp))))
  have := h.a.1
  rw [decide_eq_false (by omega : ¬ 1 + 1 * x.n < 0)]; rfl
theorem oB_ok {x : AD} (h : Sm x) {t : Nat} (hs : AllT (sOK fops isNum x t)) (hi : AllT (iOK fops isNum x t)) : AllT (oB fops isNum x t) := by
  obtain ⟨c1, c2, c3⟩ := cAll_ok h
  obtain ⟨e1, e2, e3⟩ := eAll_ok h
  have em := oM_ok h
  have eh := hd_ok h
  have q : AllT (oQ fops x t) := AllT.cons (SlFloat32.shape_flat (Rr_sh x t)) (AllT.cons (SlFloat32.shape_flat (Rr_sh x t)) (AllT.one' (okEf h.a.1 h.a.2 (Rr_sh x t))))
  have e : tT fops x t = false := by unfold tT; rw [SlFloat32.eqR_self]; rfl
  have k := oK_ok h t
  have m : AllT [flatR (Rr fops x t), flatR (SlFloat32.mkR fops 1 x.n (Rr fops x t)), SlFloat32.okM' x.n 1 x.n (Rr fops x t)] := AllT.cons (SlFloat32.shape_flat (Rr_sh x t)) (AllT.cons (SlFloat32.shape_flat (SlFloat32.shape_row _ _)) (AllT.one' (pB_iff.2 ⟨rfl, h.a.1, h.a.2, by decide, by decide, Rr_sh x t⟩)))
  unfold oB cAll
  rw [e, ng_false h]
  simp only [AllT.iffApp]
  repeat' refine And.intro ?_ ?_
  all_goals first | assumption | exact AllT.one' rfl | exact gdB_ok fun _ => q
theorem nbb {b : Bool} (h : b = false) : (!b) = true := by rw [h]; rfl
theorem nnb {b : Bool} (h : b = true) : (!!b) = true := by rw [h]; rfl
theorem law_sm {x : AD} (h : Sm x) (t : Nat) : ∃ hh hl ob, runA fops isNum hh hl x t = some (.c (.bool .t), ob) ∧ AllT ob := by
  have v := oV_ok h
  have o := oT_ok h
  have w := wc_val x t
  cases hv : V fops x with
  | false =>
    rw [hv] at w
    have w : wc fops x t = 1 := w
    exact ⟨_, _, _, run_e1 fops isNum x t, oZ_ok h (AllT.app v (AllT.one' (nbb hv))) (AllT.app v (AllT.one' (by rw [w]; rfl))) (AllT.one' (by rw [w]; rfl)) (by rw [w]; rfl)⟩
  | true =>
    have s : AllT (sV fops isNum x t) := AllT.app (AllT.app v (AllT.one' (nnb hv))) (gdB_ok fun _ => o)
    cases ho : outB fops t with
    | false =>
      rw [hv, ho] at w
      have w : wc fops x t = 2 := w
      exact ⟨_, _, _, run_e2a fops isNum x t, oZ_ok h (AllT.app s (AllT.one' (by unfold rS; rw [ho]; rfl))) (AllT.app v (AllT.one' (by rw [w]; rfl))) (AllT.one' (by rw [w]; rfl)) (by rw [w]; rfl)⟩
    | true =>
      rw [hv, ho] at w
      have w : wc fops x t = 0 := w
      have i : AllT (iV fops x t) := AllT.app (AllT.app v (AllT.one' (by rw [w]; rfl))) o
      have hS : rS fops isNum x t = rI fops isNum x := by unfold rS; rw [ho]; rfl
      cases hr : rI fops isNum x with
      | true => exact ⟨_, _, _, run_e2b fops isNum x t, oZ_ok h (AllT.app s (AllT.one' (hS.trans hr))) (AllT.app i (AllT.one' hr)) AllT.nil rfl⟩
      | false =>
        have r := oR_ok h hv hr t
        have s2 := AllT.app (AllT.app s (AllT.one' (nbb (hS.trans hr)))) r
        have i2 := AllT.app (AllT.app i (AllT.one' (nbb hr))) r
        cases hf : fin fops isNum x t with
        | false => exact ⟨_, _, _, run_e4 fops isNum x t, oZ_ok h (AllT.app s2 (AllT.one' (nbb hf))) (AllT.app i2 (AllT.one' (nbb hf))) AllT.nil rfl⟩
        | true => exact ⟨_, _, _, run_ok fops isNum x t, oB_ok h (AllT.app s2 (AllT.one' (nnb hf))) (AllT.app i2 (AllT.one' (nnb hf)))⟩
theorem law_all {x : AD} (a : 0 ≤ x.n ∧ x.n ≤ 9223372036854775807) (b : 0 ≤ x.m) (c : 0 ≤ x.l) (t : Nat) : ∃ hh hl ob, runA fops isNum hh hl x t = some (.c (.bool .t), ob) ∧ AllT ob := by
  by_cases h1 : 1048576 < x.m
  · exact ⟨_, _, _, run_b1 fops isNum x t, AllT.one' (decide_eq_true h1)⟩
  · by_cases h2 : 1048576 < x.l
    · exact ⟨_, _, _, run_b2 fops isNum x t, AllT.cons (nbb (decide_eq_false h1)) (AllT.one' (decide_eq_true h2))⟩
    · by_cases h3 : 1048576 < x.n
      · exact ⟨_, _, _, run_b3 fops isNum x t, AllT.cons (nbb (decide_eq_false h1)) (AllT.cons (nbb (decide_eq_false h2)) (AllT.one' (Chl.lf_big h3 a.2)))⟩
      · exact law_sm ⟨⟨a.1, by omega⟩, ⟨b, by omega⟩, ⟨c, by omega⟩⟩ t
end
end Go.Proofs.Ytaoeigofmfpamaa.Smk
end
