/- Slices of Wood: how they are made, compared and marked. Nothing is assumed. -/
import Derived.Test.YtaodbpejeglmlaaDoorRw
import Derived.Test.YtaodbpejeglmlaaDoorHd
import Derived.Test.YtaodbpejeglmlaaDoorNum
import Derived.Test.YtaodbpejeglmlaaDoorVal
namespace Go.Proofs.YtaodbpejeglmlaaDoor.SlWood
open Go
noncomputable def ts : List KK := [.flt .f32, .flt .f32, .flt .f32, .flt .f32, .flt .f32, .flt .f32, .flt .f32, .flt .f32, .flt .f32, .flt .f32, .flt .f32, .flt .f32, .flt .f32, .flt .f32, .flt .f32, .flt .f32, .flt .f32, .flt .f32]
noncomputable abbrev Row (F : Nat → Int → Nat) (G : Nat → Int → Int) : Int → List SC := rowK ts F G
theorem shape_row (F : Nat → Int → Nat) (G : Nat → Int → Int) : Shape ts (Row F G) := by
  unfold Shape
  funext j
  rfl
/-! ### made anew -/
noncomputable def skT : Sk := ⟨[(0, .c (.sl 1 0 18 false)), (3, .c (.sl 2 0 18 true)), (4, .c (.int .i64))], [(1, ⟨false, false, .rows 18⟩), (2, ⟨true, true, .rows 18⟩)], 3⟩
noncomputable def skTE : Sk := ⟨[(3, .c (.sl 2 0 18 true))], [(1, ⟨false, false, .rows 18⟩), (2, ⟨true, true, .rows 18⟩)], 3⟩
noncomputable def cxT (O : FOps) : Cx := ⟨Tryd.prog, O, orcN Tryd.prog O [] 8⟩
noncomputable def toN : Nat := Tryd.f24.ntmps
noncomputable def onT (b : Bool) (t : Nat) : Option Bool := bif Nat.beq t 11 then some b else none
noncomputable def goT (O : FOps) (b : Bool) (sk : Sk) (F : Nat → Int → Nat) (G : Nat → Int → Int) (X : Nat → Int → Nat) (Y : Nat → Int → Int) (n k : Int) : Option (Option XK × List LD × List Bool) :=
  goL (cxT O) toN ⟨onT b, fun _ => none⟩ (bodyOf Tryd.f24 3) 3 60 skT [] sk [.i n, .i n, .i k, .i n, .r (Row F G), .i n, .r (Row X Y)]
set_option maxRecDepth 100000 in
theorem to_step (O : FOps) (F : Nat → Int → Nat) (G : Nat → Int → Int) (X : Nat → Int → Nat) (Y : Nat → Int → Int) (n k : Int) : goT O true skT F G X Y n k =
    some (none, [.i n, .i n, .i (IntKind.i64.wrap (k + 1)), .i n, .r (Row F G), .i n, .r (Row (fun c j => bif decide (j = k) then F c k else X c j) (fun c j => bif decide (j = k) then G c k else Y c j))],
      [decide (k < n), decide (0 ≤ k ∧ k < n), decide (0 ≤ k ∧ k < n), decide (0 ≤ k ∧ k < n), decide (0 ≤ k ∧ k < n), flatR (Row F G), flatR (Row (fun c j => bif decide (j = k) then F c k else X c j) (fun c j => bif decide (j = k) then G c k else Y c j))]) := by kernel_rfl
set_option maxRecDepth 100000 in
theorem to_end (O : FOps) (F : Nat → Int → Nat) (G : Nat → Int → Int) (X : Nat → Int → Nat) (Y : Nat → Int → Int) (n k : Int) : goT O false skTE F G X Y n k =
    some (some (.exit 0), [.i n, .i n, .r (Row F G), .i n, .r (Row X Y)], [!decide (k < n), flatR (Row F G), flatR (Row X Y)]) := by kernel_rfl
noncomputable def PreT (n m k n1 : Int) (row : Int → List SC) (n2 : Int) (out : Int → List SC) : Prop :=
  m = n ∧ k = 0 ∧ n1 = n ∧ n2 = n ∧ 0 ≤ n ∧ n ≤ 1048576 ∧ Shape ts row ∧ out = Row (fun _ _ => 0) (fun _ _ => 0)
noncomputable def FT : List LD → Option (XO × List Bool)
  | [.i n, .i m, .i k, .i n1, .r row, .i n2, .r out] => some ([(.t, .exit 0, skTE, [.i n, .i n, .r row, .i n, .r (Row (clF n (datF row)) (clG n (datG row)))])], [pB (PreT n m k n1 row n2 out)])
  | _ => none
theorem to_loops (F : Nat → Int → Nat) (G : Nat → Int → Int) (n : Int) (hn : n ≤ 1048576) : ∀ (m : Nat) (k : Int), 0 ≤ k → k + m = n →
    Loops (cxT fops) toN (fun _ => none) (bodyOf Tryd.f24 3) 3 60 skT [.i n, .i n, .i k, .i n, .r (Row F G), .i n, .r (Row (clF k F) (clG k G))] (.exit 0) skTE [.i n, .i n, .r (Row F G), .i n, .r (Row (clF n F) (clG n G))] := by
  intro m
  induction m with
  | zero =>
    intro k hk hkn
    have e : k = n := by omega
    subst e
    refine .done (ts := onT false) (ρ := []) (to_end fops F G (clF k F) (clG k G) k k) ?_
    refine AllT.cons (by simp) (AllT.cons (rowK_flat _ _ _) (AllT.cons (rowK_flat _ _ _) AllT.nil))
  | succ m ih =>
    intro k hk hkn
    have h1 := to_step fops F G (clF k F) (clG k G) n k
    rw [clF_step hk, clG_step hk, wrap_succ hk (by omega)] at h1
    have hd : decide (k < n) = true := by simp; omega
    have hd2 : decide (0 ≤ k ∧ k < n) = true := by simp; omega
    exact .step (ts := onT true) (ρ := []) h1 (AllT.cons hd (AllT.cons hd2 (AllT.cons hd2 (AllT.cons hd2 (AllT.cons hd2 (AllT.cons (rowK_flat _ _ _) (AllT.cons (rowK_flat _ _ _) AllT.nil))))))) (ih (k + 1) (by omega) (by omega))
noncomputable def LT (O : FOps) : List Ly → Top → Option Outs := orIter (cxT O) toN (bodyOf Tryd.f24 3) (loopL toN 3 60 skT [] FT)
set_option maxRecDepth 100000 in
theorem okT : CodeOK Tryd.prog toN (.loop (bodyOf Tryd.f24 3)) (LT fops) := by
  refine orIter_ok (l := []) trivial mixed 8 (loopL_ok (cx := cxT fops) (lp := fun _ => none) (fun ts => body_ok (l := []) trivial mixed 8 _ ts) fun p r hr hob => ?_)
  unfold FT at hr
  split at hr <;> cases hr
  rename_i n m k n1 row n2 out
  obtain ⟨e1, e2, e3, e4, h0, hm, hs, e5⟩ := pB_iff.1 hob.head
  refine ⟨_, _, _, rfl, ?_⟩
  have h1 := to_loops (datF row) (datG row) n hm n.toNat 0 (Int.le_refl _) (by omega)
  rw [clF_zero, clG_zero] at h1
  rw [e1, e2, e3, e4, e5, hs]
  exact h1
/-- The contract of laws.toWoodS. -/
noncomputable def toS (O : FOps) : CS := canS (inl (cxT O) Tryd.f24 ⟨fun _ => none, lpOf [(3, LT O)]⟩)
set_option maxRecDepth 100000 in
theorem cTo : CallOK Tryd.prog 24 (toS fops) := by
  have hb : Tryd.f24.body.isSome = true := by kernel_rfl
  obtain ⟨c, hc⟩ := Option.isSome_iff_exists.1 hb
  have h1 : (match Tryd.f24.body with | some c => onceB (loopsIn c) && (match loopAt 3 (loopsIn c) with | some _ => true | none => false) | none => false) = true := by kernel_rfl
  rw [hc] at h1
  simp only [Bool.and_eq_true] at h1
  exact (inlL_of (l := []) (ls := [(3, LT fops)]) trivial mixed 8 Tryd.func24 (by kernel_rfl) (fun _ => none) hc h1.1 ⟨⟨_, bodyOf_at hc h1.2, okT⟩, trivial⟩).can
/-! ### compared -/
noncomputable def q (O : FOps) (F : Nat → Int → Nat) (G : Nat → Int → Int) (H : Nat → Int → Nat) (I : Nat → Int → Int) (k : Int) : Bool := eqW O (back fun c => F c k) (back fun c => H c k)
noncomputable def skQ : Sk := ⟨[(0, .c (.sl 2 0 18 false)), (1, .c (.sl 1 0 18 false)), (5, .c (.int .i64))], [(1, ⟨false, false, .rows 18⟩), (2, ⟨false, false, .rows 18⟩)], 3⟩
noncomputable def skQR : Sk := ⟨[(4, .c (.boolc false))], [(1, ⟨false, false, .rows 18⟩), (2, ⟨false, false, .rows 18⟩)], 3⟩
noncomputable def skQE : Sk := ⟨[], [(1, ⟨false, false, .rows 18⟩), (2, ⟨false, false, .rows 18⟩)], 3⟩
noncomputable def LQ (O : FOps) : List (Nat × CS) := [(50, gS (eqG O))]
set_option maxRecDepth 100000 in
theorem okLQ : AllOK Tryd.prog (LQ fops) := ⟨cEq, trivial⟩
noncomputable def cxQ (O : FOps) : Cx := ⟨Tryd.prog, O, orcN Tryd.prog O (LQ O) 8⟩
noncomputable def eqN : Nat := Tryd.f27.ntmps
noncomputable def onQ (a b : Bool) (t : Nat) : Option Bool := bif Nat.beq t 14 then some a else bif Nat.beq t 26 then some b else none
noncomputable def goQ (O : FOps) (a b : Bool) (sk : Sk) (F : Nat → Int → Nat) (G : Nat → Int → Int) (H : Nat → Int → Nat) (I : Nat → Int → Int) (n m k : Int) : Option (Option XK × List LD × List Bool) :=
  goL (cxQ O) eqN ⟨onQ a b, fun _ => none⟩ (bodyOf Tryd.f27 4) 3 60 skQ [] sk [.i n, .i m, .i k, .i m, .r (Row H I), .i n, .r (Row F G)]
noncomputable def idx (n m k : Int) : List Bool := [decide (k < n), decide (0 ≤ k ∧ k < n), decide (0 ≤ k ∧ k < n), decide (0 ≤ k ∧ k < m), decide (0 ≤ k ∧ k < m)]
set_option maxRecDepth 100000 in
theorem eq_step (O : FOps) (F : Nat → Int → Nat) (G : Nat → Int → Int) (H : Nat → Int → Nat) (I : Nat → Int → Int) (n m k : Int) : goQ O true false skQ F G H I n m k =
    some (none, [.i n, .i m, .i (IntKind.i64.wrap (k + 1)), .i m, .r (Row H I), .i n, .r (Row F G)], idx n m k ++ [!!(q O F G H I k), flatR (Row H I), flatR (Row F G)]) := by kernel_rfl
set_option maxRecDepth 100000 in
theorem eq_ret (O : FOps) (F : Nat → Int → Nat) (G : Nat → Int → Int) (H : Nat → Int → Nat) (I : Nat → Int → Int) (n m k : Int) : goQ O true true skQR F G H I n m k =
    some (some .ret, [.i m, .r (Row H I), .i n, .r (Row F G)], idx n m k ++ [!(q O F G H I k), flatR (Row H I), flatR (Row F G)]) := by kernel_rfl
set_option maxRecDepth 100000 in
theorem eq_end (O : FOps) (F : Nat → Int → Nat) (G : Nat → Int → Int) (H : Nat → Int → Nat) (I : Nat → Int → Int) (n m k : Int) : goQ O false true skQE F G H I n m k =
    some (some (.exit 0), [.i m, .r (Row H I), .i n, .r (Row F G)], [!decide (k < n), flatR (Row H I), flatR (Row F G)]) := by kernel_rfl
theorem idx_ok {n k : Int} (h0 : 0 ≤ k) (h1 : k < n) : AllT (idx n n k) := by
  have h2 : decide (0 ≤ k ∧ k < n) = true := by simp; omega
  exact AllT.cons (by simpa using h1) (AllT.cons h2 (AllT.cons h2 (AllT.cons h2 (AllT.cons h2 AllT.nil))))
theorem eq_loops (F : Nat → Int → Nat) (G : Nat → Int → Int) (H : Nat → Int → Nat) (I : Nat → Int → Int) (n : Int) (hn : n ≤ 1048576) : ∀ (m : Nat) (k : Int), 0 ≤ k → k + m = n →
    (eqFrom (q fops F G H I) k m = true → Loops (cxQ fops) eqN (fun _ => none) (bodyOf Tryd.f27 4) 3 60 skQ [.i n, .i n, .i k, .i n, .r (Row H I), .i n, .r (Row F G)] (.exit 0) skQE [.i n, .r (Row H I), .i n, .r (Row F G)]) ∧
    (eqFrom (q fops F G H I) k m = false → Loops (cxQ fops) eqN (fun _ => none) (bodyOf Tryd.f27 4) 3 60 skQ [.i n, .i n, .i k, .i n, .r (Row H I), .i n, .r (Row F G)] .ret skQR [.i n, .r (Row H I), .i n, .r (Row F G)]) := by
  have fl : AllT [flatR (Row H I), flatR (Row F G)] := AllT.cons (rowK_flat _ _ _) (AllT.cons (rowK_flat _ _ _) AllT.nil)
  intro m
  induction m with
  | zero =>
    intro k hk hkn
    have e : k = n := by omega
    subst e
    refine ⟨fun _ => .done (ts := onQ false true) (ρ := []) (eq_end fops F G H I k k k) (AllT.cons (by simp) fl), fun h => by cases h⟩
  | succ m ih =>
    intro k hk hkn
    have hlt : k < n := by omega
    obtain ⟨i1, i2⟩ := ih (k + 1) (by omega) (by omega)
    have hE : eqFrom (q fops F G H I) k (m + 1) = bif q fops F G H I k then eqFrom (q fops F G H I) (k + 1) m else false := rfl
    rw [hE]
    cases hq : q fops F G H I k with
    | true =>
      have h1 := eq_step fops F G H I n n k
      rw [wrap_succ hk (by omega)] at h1
      have ho : AllT (idx n n k ++ [!!(q fops F G H I k), flatR (Row H I), flatR (Row F G)]) := AllT.app (idx_ok hk hlt) (AllT.cons (by rw [hq]; rfl) fl)
      exact ⟨fun h => .step (ts := onQ true false) (ρ := []) h1 ho (i1 h), fun h => .step (ts := onQ true false) (ρ := []) h1 ho (i2 h)⟩
    | false =>
      refine ⟨fun h => (by cases h), fun _ => .done (ts := onQ true true) (ρ := []) (eq_ret fops F G H I n n k) (AllT.app (idx_ok hk hlt) (AllT.cons (by rw [hq]; rfl) fl))⟩
def PreQ (n m k n1 : Int) (row : Int → List SC) (m1 : Int) (row' : Int → List SC) : Prop :=
  m = n ∧ k = 0 ∧ n1 = n ∧ m1 = n ∧ 0 ≤ n ∧ n ≤ 1048576 ∧ Shape ts row ∧ Shape ts row'
noncomputable def FQ (O : FOps) : List LD → Option (XO × List Bool)
  | [.i n, .i m, .i k, .i m1, .r row', .i n1, .r row] => some ([(.s (!eqFrom (q O (datF row) (datG row) (datF row') (datG row')) 0 n.toNat), .ret, skQR, [.i m, .r row', .i n, .r row]), (.t, .exit 0, skQE, [.i m, .r row', .i n, .r row])], [pB (PreQ n m k n1 row m1 row')])
  | _ => none
noncomputable def LE (O : FOps) : List Ly → Top → Option Outs := orIter (cxQ O) eqN (bodyOf Tryd.f27 4) (loopL eqN 3 60 skQ [] (FQ O))
set_option maxRecDepth 100000 in
theorem okE : CodeOK Tryd.prog eqN (.loop (bodyOf Tryd.f27 4)) (LE fops) := by
  refine orIter_ok (l := LQ fops) okLQ mixed 8 (loopL_ok (cx := cxQ fops) (lp := fun _ => none) (fun ts => body_ok (l := LQ fops) okLQ mixed 8 _ ts) fun p r hr hob => ?_)
  unfold FQ at hr
  split at hr <;> cases hr
  rename_i n m k m1 row' n1 row
  obtain ⟨e1, e2, e3, e4, h0, hm, hs, hs'⟩ := pB_iff.1 hob.head
  obtain ⟨h1, h2⟩ := eq_loops (datF row) (datG row) (datF row') (datG row') n hm n.toNat 0 (Int.le_refl _) (by omega)
  have hs1 : Row (datF row) (datG row) = row := hs.symm
  have hs2 : Row (datF row') (datG row') = row' := hs'.symm
  rw [hs1, hs2] at h1 h2
  rw [e1, e2, e3, e4]
  cases hq : eqFrom (q fops (datF row) (datG row) (datF row') (datG row')) 0 n.toNat with
  | true => exact ⟨_, _, _, by simp [pickX, SB.val], h1 hq⟩
  | false => exact ⟨_, _, _, by simp [pickX, SB.val], h2 hq⟩
/-- The contract of laws.eqWoodS. -/
noncomputable def eqS (O : FOps) : CS := roS (canS (inl (cxQ O) Tryd.f27 ⟨fun _ => none, lpOf [(4, LE O)]⟩))
set_option maxRecDepth 100000 in
theorem cEqS : CallOK Tryd.prog 27 (eqS fops) := by
  have hb : Tryd.f27.body.isSome = true := by kernel_rfl
  obtain ⟨c, hc⟩ := Option.isSome_iff_exists.1 hb
  have h1 : (match Tryd.f27.body with | some c => onceB (loopsIn c) && (match loopAt 4 (loopsIn c) with | some _ => true | none => false) | none => false) = true := by kernel_rfl
  rw [hc] at h1
  simp only [Bool.and_eq_true] at h1
  exact (inlL_of (l := LQ fops) (ls := [(4, LE fops)]) okLQ mixed 8 Tryd.func27 (by kernel_rfl) (fun _ => none) hc h1.1 ⟨⟨_, bodyOf_at hc h1.2, okE⟩, trivial⟩).can.ro
theorem q_self (F : Nat → Int → Nat) (G : Nat → Int → Int) (m : Nat) : eqFrom (q fops F G F G) 0 m = true := eqFrom_all (fun k => by unfold q; exact eqW_self _) m 0
/-! ### marked -/
noncomputable def mkF (O : FOps) (u : Int) (k : Int) (X : Nat → Int → Nat) (c : Nat) (j : Int) : Nat := bif decide (0 ≤ j) && decide (j < k) then O.ofInt .f32 (wr (u + 18 * j) c) else X c j
noncomputable def mkG (u : Int) (k : Int) (Y : Nat → Int → Int) (c : Nat) (j : Int) : Int := bif decide (0 ≤ j) && decide (j < k) then wr (u + 18 * j) c else Y c j
theorem mkF_zero (O : FOps) (u : Int) (X : Nat → Int → Nat) : mkF O u 0 X = X := by
  funext c j
  unfold mkF
  by_cases h : 0 ≤ j
  · rw [decide_eq_false (by omega : ¬ j < 0), Bool.and_false]; rfl
  · rw [decide_eq_false h]; rfl
theorem mkG_zero (u : Int) (X : Nat → Int → Int) : mkG u 0 X = X := by
  funext c j
  unfold mkG
  by_cases h : 0 ≤ j
  · rw [decide_eq_false (by omega : ¬ j < 0), Bool.and_false]; rfl
  · rw [decide_eq_false h]; rfl
theorem mkF_step {k : Int} (hk : 0 ≤ k) (O : FOps) (u : Int) (X : Nat → Int → Nat) : (fun c j => bif decide (j = k) then O.ofInt .f32 (wr (u + 18 * k) c) else mkF O u k X c j) = mkF O u (k + 1) X := by
  funext c j
  unfold mkF
  by_cases e : j = k
  · subst e
    have h1 : j < j + 1 := by omega
    simp [hk, h1]
  · rw [decide_eq_false e]
    by_cases h : j < k
    · rw [decide_eq_true h, decide_eq_true (by omega : j < k + 1)]; rfl
    · rw [decide_eq_false h, decide_eq_false (by omega : ¬ j < k + 1)]; rfl
theorem mkG_step {k : Int} (hk : 0 ≤ k) (u : Int) (X : Nat → Int → Int) : (fun c j => bif decide (j = k) then wr (u + 18 * k) c else mkG u k X c j) = mkG u (k + 1) X := by
  funext c j
  unfold mkG
  by_cases e : j = k
  · subst e
    have h1 : j < j + 1 := by omega
    simp [hk, h1]
  · rw [decide_eq_false e]
    by_cases h : j < k
    · rw [decide_eq_true h, decide_eq_true (by omega : j < k + 1)]; rfl
    · rw [decide_eq_false h, decide_eq_false (by omega : ¬ j < k + 1)]; rfl
noncomputable def skM : Sk := ⟨[(0, .c (.sl 1 0 18 false)), (1, .c (.int .i64)), (5, .c (.int .i64))], [(1, ⟨true, false, .rows 18⟩)], 2⟩
noncomputable def skME : Sk := ⟨[(1, .c (.int .i64))], [(1, ⟨true, false, .rows 18⟩)], 2⟩
noncomputable def onM (b : Bool) (t : Nat) : Option Bool := bif Nat.beq t 12 then some b else none
def PreM (n u k n1 : Int) (row : Int → List SC) : Prop := k = 0 ∧ n1 = n ∧ 0 ≤ n ∧ n ≤ 1048576 ∧ 0 ≤ u ∧ u ≤ 50000000 ∧ Shape ts row
noncomputable def FM (O : FOps) : List LD → Option (XO × List Bool)
  | [.i n, .i u, .i k, .i n1, .r row] => some ([(.t, .exit 0, skME, [.i (u + 18 * n), .i n, .r (Row (mkF O u n (datF row)) (mkG u n (datG row)))])], [pB (PreM n u k n1 row)])
  | _ => none
theorem int_num (k : FloatKind) (n : Int) : nanb k (fops.ofInt k n) = false := write_not_nan k.format (.number (n < 0) n.natAbs 0) rfl
noncomputable def skH : Sk := ⟨[(0, .c (.sl 1 0 18 false)), (1, .c (.int .i64)), (5, .c (.int .i64))], [(1, ⟨false, false, .rows 18⟩)], 2⟩
noncomputable def skHE : Sk := ⟨[(1, .c (.int .i64))], [], 2⟩
noncomputable def onH (b : Bool) (t : Nat) : Option Bool := bif Nat.beq t 12 then some b else bif Nat.beq t 28 then some false else bif Nat.beq t 44 then some false else bif Nat.beq t 60 then some false else none
noncomputable def hob (O : FOps) (F : Nat → Int → Nat) (G : Nat → Int → Int) (n u k : Int) : List Bool := [decide (k < n), decide (0 ≤ k ∧ k < n), decide (0 ≤ k ∧ k < n), !O.cmp .neq .f32 (F 0 k) (O.ofInt .f32 (wr u 0)), decide (0 ≤ k ∧ k < n), decide (0 ≤ k ∧ k < n), !O.cmp .neq .f32 (F 1 k) (O.ofInt .f32 (wr u 1)), decide (0 ≤ k ∧ k < n), decide (0 ≤ k ∧ k < n), !O.cmp .neq .f32 (F 2 k) (O.ofInt .f32 (wr u 2)), decide (0 ≤ k ∧ k < n), decide (0 ≤ k ∧ k < n), !O.cmp .neq .f32 (F 3 k) (O.ofInt .f32 (wr u 3)), decide (0 ≤ k ∧ k < n), decide (0 ≤ k ∧ k < n), !O.cmp .neq .f32 (F 4 k) (O.ofInt .f32 (wr u 4)), decide (0 ≤ k ∧ k < n), decide (0 ≤ k ∧ k < n), !O.cmp .neq .f32 (F 5 k) (O.ofInt .f32 (wr u 5)), decide (0 ≤ k ∧ k < n), decide (0 ≤ k ∧ k < n), !O.cmp .neq .f32 (F 6 k) (O.ofInt .f32 (wr u 6)), decide (0 ≤ k ∧ k < n), decide (0 ≤ k ∧ k < n), !O.cmp .neq .f32 (F 7 k) (O.ofInt .f32 (wr u 7)), decide (0 ≤ k ∧ k < n), decide (0 ≤ k ∧ k < n), !O.cmp .neq .f32 (F 8 k) (O.ofInt .f32 (wr u 8)), decide (0 ≤ k ∧ k < n), decide (0 ≤ k ∧ k < n), !O.cmp .neq .f32 (F 9 k) (O.ofInt .f32 (wr u 9)), decide (0 ≤ k ∧ k < n), decide (0 ≤ k ∧ k < n), !O.cmp .neq .f32 (F 10 k) (O.ofInt .f32 (wr u 10)), decide (0 ≤ k ∧ k < n), decide (0 ≤ k ∧ k < n), !O.cmp .neq .f32 (F 11 k) (O.ofInt .f32 (wr u 11)), decide (0 ≤ k ∧ k < n), decide (0 ≤ k ∧ k < n), !O.cmp .neq .f32 (F 12 k) (O.ofInt .f32 (wr u 12)), decide (0 ≤ k ∧ k < n), decide (0 ≤ k ∧ k < n), !O.cmp .neq .f32 (F 13 k) (O.ofInt .f32 (wr u 13)), decide (0 ≤ k ∧ k < n), decide (0 ≤ k ∧ k < n), !O.cmp .neq .f32 (F 14 k) (O.ofInt .f32 (wr u 14)), decide (0 ≤ k ∧ k < n), decide (0 ≤ k ∧ k < n), !O.cmp .neq .f32 (F 15 k) (O.ofInt .f32 (wr u 15)), decide (0 ≤ k ∧ k < n), decide (0 ≤ k ∧ k < n), !O.cmp .neq .f32 (F 16 k) (O.ofInt .f32 (wr u 16)), decide (0 ≤ k ∧ k < n), decide (0 ≤ k ∧ k < n), !O.cmp .neq .f32 (F 17 k) (O.ofInt .f32 (wr u 17)), flatR (Row F G)]
def Marked (u n : Int) (row : Int → List SC) : Prop := ∃ X Y, row = Row (mkF fops u n X) (mkG u n Y)
def PreH (n u k n1 : Int) (row : Int → List SC) : Prop := k = 0 ∧ n1 = n ∧ 0 ≤ n ∧ n ≤ 1048576 ∧ 0 ≤ u ∧ u ≤ 50000000 ∧ Marked u n row
noncomputable def FH : List LD → Option (XO × List Bool)
  | [.i n, .i u, .i k, .i n1, .r row] => some ([(.t, .exit 0, skHE, [.i (u + 18 * n)])], [pB (PreH n u k n1 row)])
  | _ => none
noncomputable section
theorem shape_flat {row : Int → List SC} (h : Shape ts row) : flatR row = true := by rw [h]; exact rowK_flat _ _ _
/-- The rows of a copy. -/
def cpR (n : Int) (row : Int → List SC) : Int → List SC := Row (clF n (datF row)) (clG n (datG row))
/-- The rows when they are marked. -/
def mkR (O : FOps) (u n : Int) (row : Int → List SC) : Int → List SC := Row (mkF O u n (datF row)) (mkG u n (datG row))
def okN (n N : Int) (row : Int → List SC) : Bool := pB (N = n ∧ 0 ≤ n ∧ n ≤ 1048576 ∧ Shape ts row)
def okM' (n u N : Int) (row : Int → List SC) : Bool := pB (N = n ∧ 0 ≤ n ∧ n ≤ 1048576 ∧ 0 ≤ u ∧ u ≤ 50000000 ∧ Shape ts row)
def okH' (n u N : Int) (row : Int → List SC) : Bool := pB (N = n ∧ 0 ≤ n ∧ n ≤ 1048576 ∧ 0 ≤ u ∧ u ≤ 50000000 ∧ Marked u n row)
def okE' (n N : Int) (row : Int → List SC) (m M : Int) (row' : Int → List SC) : Bool := !decide (n = m) || pB (N = n ∧ M = n ∧ 0 ≤ n ∧ n ≤ 1048576 ∧ Shape ts row ∧ Shape ts row')
def eqR (O : FOps) (n m : Int) (row row' : Int → List SC) : Bool := bif !decide (n = m) then false else bif !eqFrom (q O (datF row) (datG row) (datF row') (datG row')) 0 n.toNat then false else true
theorem eqR_self (n : Int) (row : Int → List SC) : eqR fops n n row row = true := by
  unfold eqR
  rw [decide_eq_true rfl, q_self]
  rfl
def Z0 : Int → List SC := Row (fun _ _ => 0) (fun _ _ => 0)
set_option maxRecDepth 100000 in
theorem to_run (O : FOps) (f w o : Bool) (n N : Int) (row : Int → List SC) : nwS (inl (cxT O) Tryd.f24 ⟨fun _ => none, lpOf [(3, LT O)]⟩) 2 [.c (.sl 1 0 18 (.s n) f)] [(1, ⟨w, o, .rows 18 N row⟩)] =
    some ⟨.c (.sl 2 0 18 (.s n) true), [(2, some ⟨true, true, .rows 18 n (cpR n row)⟩)], 60, [decide (n = n ∧ 0 ≤ n ∧ n ≤ 100000000), flatR row, flatR Z0, pB (PreT n n 0 N row n Z0)]⟩ := by kernel_rfl
def toH : CS := fun base args rd => match args with
  | [.c (.sl i o es (.s n) _)] => match rd with
    | [(j, ⟨_, _, .rows st N row⟩)] => match Nat.beq base 2 && (Nat.beq i 1 && (Nat.beq o 0 && (Nat.beq es 18 && (Nat.beq j 1 && Nat.beq st 18)))) with
      | true => some ⟨.c (.sl 2 0 18 (.s n) true), [(2, some ⟨true, true, .rows 18 n (cpR n row)⟩)], 60, [okN n N row]⟩
      | false => none
    | _ => none
  | _ => none
set_option maxRecDepth 100000 in
theorem cTo0 : CallOK Tryd.prog 24 (inl (cxT fops) Tryd.f24 ⟨fun _ => none, lpOf [(3, LT fops)]⟩) := by
  have hb : Tryd.f24.body.isSome = true := by kernel_rfl
  obtain ⟨c, hc⟩ := Option.isSome_iff_exists.1 hb
  have h1 : (match Tryd.f24.body with | some c => onceB (loopsIn c) && (match loopAt 3 (loopsIn c) with | some _ => true | none => false) | none => false) = true := by kernel_rfl
  rw [hc] at h1
  simp only [Bool.and_eq_true] at h1
  exact inlL_of (l := []) (ls := [(3, LT fops)]) trivial mixed 8 Tryd.func24 (by kernel_rfl) (fun _ => none) hc h1.1 ⟨⟨_, bodyOf_at hc h1.2, okT⟩, trivial⟩
def toC (O : FOps) : CS := orS (canS toH) (inl (cxT O) Tryd.f24 noH)
set_option maxRecDepth 100000 in
theorem cToC : CallOK Tryd.prog 24 (toC fops) :=
  (CallOK.hand (H := toH) cTo0.nw fun b args rd e h hob => by
    unfold toH at h
    split at h <;> try (cases h; done)
    rename_i i o es n f
    split at h <;> try (cases h; done)
    rename_i j w o' st N row
    split at h <;> cases h
    rename_i hc
    simp only [Bool.and_eq_true, beqN] at hc
    obtain ⟨rfl, rfl, rfl, rfl, rfl, rfl⟩ := hc
    obtain ⟨rfl, h0, hm, hs⟩ := pB_iff.1 hob.head
    exact ⟨_, to_run fops f w o' N N row, AllT.cons (by simp; omega) (AllT.cons (shape_flat hs) (AllT.cons (rowK_flat _ _ _) (AllT.cons (pB_iff.2 ⟨rfl, rfl, rfl, rfl, h0, hm, hs, rfl⟩) AllT.nil)))⟩).can.or
    (inlN_of (l := []) trivial mixed 8 Tryd.func24 (by kernel_rfl) (fun _ => none))
def maH (O : FOps) : CS := fun base args rd => match args with
  | [.c (.sl i o es (.s n) _), .c (.int .i64 u)] => match rd with
    | [(j, ⟨true, _, .rows st N row⟩)] => match Nat.beq base 2 && (Nat.beq i 1 && (Nat.beq o 0 && (Nat.beq es 18 && (Nat.beq j 1 && Nat.beq st 18)))) with
      | true => some ⟨.c (.int .i64 (.s (u.val + 18 * n))), [(1, some ⟨true, false, .rows 18 n (mkR O u.val n row)⟩)], 60, [okM' n u.val N row]⟩
      | false => none
    | _ => none
  | _ => none
def heH : CS := fun base args rd => match args with
  | [.c (.sl i o es (.s n) _), .c (.int .i64 u)] => match rd with
    | [(j, ⟨_, _, .rows st N row⟩)] => match Nat.beq base 2 && (Nat.beq i 1 && (Nat.beq o 0 && (Nat.beq es 18 && (Nat.beq j 1 && Nat.beq st 18)))) with
      | true => some ⟨.c (.int .i64 (.s (u.val + 18 * n))), [], 60, [okH' n u.val N row]⟩
      | false => none
    | _ => none
  | _ => none
theorem marked_shape {u n : Int} {row : Int → List SC} (h : Marked u n row) : Shape ts row := by
  obtain ⟨X, Y, rfl⟩ := h
  exact shape_row _ _
theorem mkR_marked (u n : Int) (row : Int → List SC) : Marked u n (mkR fops u n row) := ⟨_, _, rfl⟩
set_option maxRecDepth 100000 in
theorem eq_run (O : FOps) (f w o f' w' o' : Bool) (n N m M : Int) (row row' : Int → List SC) : roS (inl (cxQ O) Tryd.f27 ⟨fun _ => none, lpOf [(4, LE O)]⟩) 3 [.c (.sl 2 0 18 (.s n) f), .c (.sl 1 0 18 (.s m) f')] [(1, ⟨w', o', .rows 18 M row'⟩), (2, ⟨w, o, .rows 18 N row⟩)] =
    some ⟨.c (.bool (.s (eqR O n m row row'))), [], 60, gdB (!decide (n = m)) [flatR row', flatR row, pB (PreQ n m 0 N row M row')]⟩ := by kernel_rfl
def eqH (O : FOps) : CS := fun base args rd => match args with
  | [.c (.sl i o es (.s n) _), .c (.sl i' o' es' (.s m) _)] => match rd with
    | [(j', ⟨_, _, .rows st' M row'⟩), (j, ⟨_, _, .rows st N row⟩)] => match Nat.beq base 3 && (Nat.beq i 2 && (Nat.beq o 0 && (Nat.beq es 18 && (Nat.beq j 2 && (Nat.beq st 18 && (Nat.beq i' 1 && (Nat.beq o' 0 && (Nat.beq es' 18 && (Nat.beq j' 1 && Nat.beq st' 18))))))))) with
      | true => some ⟨.c (.bool (.s (eqR O n m row row'))), [], 60, [okE' n N row m M row']⟩
      | false => none
    | _ => none
  | _ => none
set_option maxRecDepth 100000 in
theorem cEq0 : CallOK Tryd.prog 27 (inl (cxQ fops) Tryd.f27 ⟨fun _ => none, lpOf [(4, LE fops)]⟩) := by
  have hb : Tryd.f27.body.isSome = true := by kernel_rfl
  obtain ⟨c, hc⟩ := Option.isSome_iff_exists.1 hb
  have h1 : (match Tryd.f27.body with | some c => onceB (loopsIn c) && (match loopAt 4 (loopsIn c) with | some _ => true | none => false) | none => false) = true := by kernel_rfl
  rw [hc] at h1
  simp only [Bool.and_eq_true] at h1
  exact inlL_of (l := LQ fops) (ls := [(4, LE fops)]) okLQ mixed 8 Tryd.func27 (by kernel_rfl) (fun _ => none) hc h1.1 ⟨⟨_, bodyOf_at hc h1.2, okE⟩, trivial⟩
def eqC (O : FOps) : CS := orS (canS (eqH O)) (inl (cxQ O) Tryd.f27 noH)
set_option maxRecDepth 100000 in
theorem cEqC : CallOK Tryd.prog 27 (eqC fops) :=
  (CallOK.hand (H := eqH fops) cEq0.ro fun b args rd e h hob => by
    unfold eqH at h
    split at h <;> try (cases h; done)
    rename_i i o es n f i' o' es' m f'
    split at h <;> try (cases h; done)
    rename_i j' w' p' st' M row' j w p st N row
    split at h <;> cases h
    rename_i hc
    simp only [Bool.and_eq_true, beqN] at hc
    obtain ⟨rfl, rfl, rfl, rfl, rfl, rfl, rfl, rfl, rfl, rfl, rfl⟩ := hc
    refine ⟨_, eq_run fops f w p f' w' p' n N m M row row', gdB_ok fun hg => ?_⟩
    have hnm : decide (n = m) = true := by simpa using hg
    have ho := hob.head
    unfold okE' at ho
    rw [hnm] at ho
    obtain ⟨e1, e2, h0, hm, hs, hs'⟩ := pB_iff.1 (show pB _ = true from ho)
    exact AllT.cons (shape_flat hs') (AllT.cons (shape_flat hs) (AllT.cons (pB_iff.2 ⟨(of_decide_eq_true hnm).symm, rfl, e1, e2, h0, hm, hs, hs'⟩) AllT.nil))).can.or
    (inlN_of (l := LQ fops) okLQ mixed 8 Tryd.func27 (by kernel_rfl) (fun _ => none))
end
end Go.Proofs.YtaodbpejeglmlaaDoor.SlWood
