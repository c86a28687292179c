/- Slices of Wood: how they are made, compared and marked. Nothing is assumed. -/
import Derived.Test.YtngdmcbjponlhaaRw
import Derived.Test.YtngdmcbjponlhaaRo
import Derived.Test.YtngdmcbjponlhaaNum
import Derived.Test.YtngdmcbjponlhaaVal
namespace Go.Proofs.Ytngdmcbjponlhaa.SlWood
open Go
noncomputable def ts : List KK := [.flt .f32, .flt .f32, .flt .f32, .flt .f32, .flt .f32, .flt .f32, .flt .f32, .flt .f32, .flt .f32, .flt .f32, .flt .f32, .flt .f32, .flt .f32, .flt .f32, .flt .f32, .flt .f32, .flt .f32, .flt .f32]
noncomputable abbrev Row (F : Nat → Int → Nat) (G : Nat → Int → Int) : Int → List SC := rowK ts F G
theorem shape_row (F : Nat → Int → Nat) (G : Nat → Int → Int) : Shape ts (Row F G) := by
  unfold Shape
  funext j
  rfl
/-! ### made anew -/
noncomputable def skT : Sk := ⟨[(0, .c (.sl 1 0 18 false)), (3, .c (.sl 2 0 18 true)), (4, .c (.int .i64))], [(1, ⟨false, false, .rows 18⟩), (2, ⟨true, true, .rows 18⟩)], 3⟩
noncomputable def skTE : Sk := ⟨[(3, .c (.sl 2 0 18 true))], [(1, ⟨false, false, .rows 18⟩), (2, ⟨true, true, .rows 18⟩)], 3⟩
noncomputable def cxT (O : FOps) : Cx := ⟨Try.prog, O, orcN Try.prog O [] 8⟩
noncomputable def toN : Nat := Try.f53.ntmps
noncomputable def onT (b : Bool) (t : Nat) : Option Bool := bif Nat.beq t 11 then some b else none
noncomputable def goT (O : FOps) (b : Bool) (sk : Sk) (F : Nat → Int → Nat) (G : Nat → Int → Int) (X : Nat → Int → Nat) (Y : Nat → Int → Int) (n k : Int) : Option (Option XK × List LD × List Bool) :=
  goL (cxT O) toN ⟨onT b, fun _ => none⟩ (bodyOf Try.f53 3) 3 60 skT [] sk [.i n, .i n, .i k, .i n, .r (Row F G), .i n, .r (Row X Y)]
set_option maxRecDepth 100000 in
theorem to_step (O : FOps) (F : Nat → Int → Nat) (G : Nat → Int → Int) (X : Nat → Int → Nat) (Y : Nat → Int → Int) (n k : Int) : goT O true skT F G X Y n k =
    some (none, [.i n, .i n, .i (IntKind.i64.wrap (k + 1)), .i n, .r (Row F G), .i n, .r (Row (fun c j => bif decide (j = k) then F c k else X c j) (fun c j => bif decide (j = k) then G c k else Y c j))],
      [decide (k < n), decide (0 ≤ k ∧ k < n), decide (0 ≤ k ∧ k < n), decide (0 ≤ k ∧ k < n), decide (0 ≤ k ∧ k < n), flatR (Row F G), flatR (Row (fun c j => bif decide (j = k) then F c k else X c j) (fun c j => bif decide (j = k) then G c k else Y c j))]) := by kernel_rfl
set_option maxRecDepth 100000 in
theorem to_end (O : FOps) (F : Nat → Int → Nat) (G : Nat → Int → Int) (X : Nat → Int → Nat) (Y : Nat → Int → Int) (n k : Int) : goT O false skTE F G X Y n k =
    some (some (.exit 0), [.i n, .i n, .r (Row F G), .i n, .r (Row X Y)], [!decide (k < n), flatR (Row F G), flatR (Row X Y)]) := by kernel_rfl
noncomputable def PreT (n m k n1 : Int) (row : Int → List SC) (n2 : Int) (out : Int → List SC) : Prop :=
  m = n ∧ k = 0 ∧ n1 = n ∧ n2 = n ∧ 0 ≤ n ∧ n ≤ 1048576 ∧ Shape ts row ∧ out = Row (fun _ _ => 0) (fun _ _ => 0)
noncomputable def FT : List LD → Option (XO × List Bool)
  | [.i n, .i m, .i k, .i n1, .r row, .i n2, .r out] => some ([(.t, .exit 0, skTE, [.i n, .i n, .r row, .i n, .r (Row (clF n (datF row)) (clG n (datG row)))])], [pB (PreT n m k n1 row n2 out)])
  | _ => none
theorem to_loops (F : Nat → Int → Nat) (G : Nat → Int → Int) (n : Int) (hn : n ≤ 1048576) : ∀ (m : Nat) (k : Int), 0 ≤ k → k + m = n →
    Loops (cxT fops) toN (fun _ => none) (bodyOf Try.f53 3) 3 60 skT [.i n, .i n, .i k, .i n, .r (Row F G), .i n, .r (Row (clF k F) (clG k G))] (.exit 0) skTE [.i n, .i n, .r (Row F G), .i n, .r (Row (clF n F) (clG n G))] := by
  intro m
  induction m with
  | zero =>
    intro k hk hkn
    have e : k = n := by omega
    subst e
    refine .done (ts := onT false) (ρ := []) (to_end fops F G (clF k F) (clG k G) k k) ?_
    refine AllT.cons (by simp) (AllT.cons (rowK_flat _ _ _) (AllT.cons (rowK_flat _ _ _) AllT.nil))
  | succ m ih =>
    intro k hk hkn
    have h1 := to_step fops F G (clF k F) (clG k G) n k
    rw [clF_step hk, clG_step hk, wrap_succ hk (by omega)] at h1
    have hd : decide (k < n) = true := by simp; omega
    have hd2 : decide (0 ≤ k ∧ k < n) = true := by simp; omega
    exact .step (ts := onT true) (ρ := []) h1 (AllT.cons hd (AllT.cons hd2 (AllT.cons hd2 (AllT.cons hd2 (AllT.cons hd2 (AllT.cons (rowK_flat _ _ _) (AllT.cons (rowK_flat _ _ _) AllT.nil))))))) (ih (k + 1) (by omega) (by omega))
noncomputable def LT (O : FOps) : List Ly → Top → Option Outs := orIter (cxT O) toN (bodyOf Try.f53 3) (loopL toN 3 60 skT [] FT)
set_option maxRecDepth 100000 in
theorem okT : CodeOK Try.prog toN (.loop (bodyOf Try.f53 3)) (LT fops) := by
  refine orIter_ok (l := []) trivial mixed 8 (loopL_ok (cx := cxT fops) (lp := fun _ => none) (fun ts => body_ok (l := []) trivial mixed 8 _ ts) fun p r hr hob => ?_)
  unfold FT at hr
  split at hr <;> cases hr
  rename_i n m k n1 row n2 out
  obtain ⟨e1, e2, e3, e4, h0, hm, hs, e5⟩ := pB_iff.1 hob.head
  refine ⟨_, _, _, rfl, ?_⟩
  have h1 := to_loops (datF row) (datG row) n hm n.toNat 0 (Int.le_refl _) (by omega)
  rw [clF_zero, clG_zero] at h1
  rw [e1, e2, e3, e4, e5, hs]
  exact h1
/-- The contract of laws.toWoodS. -/
noncomputable def toS (O : FOps) : CS := canS (inl (cxT O) Try.f53 ⟨fun _ => none, lpOf [(3, LT O)]⟩)
set_option maxRecDepth 100000 in
theorem cTo : CallOK Try.prog 53 (toS fops) := by
  have hb : Try.f53.body.isSome = true := by kernel_rfl
  obtain ⟨c, hc⟩ := Option.isSome_iff_exists.1 hb
  have h1 : (match Try.f53.body with | some c => onceB (loopsIn c) && (match loopAt 3 (loopsIn c) with | some _ => true | none => false) | none => false) = true := by kernel_rfl
  rw [hc] at h1
  simp only [Bool.and_eq_true] at h1
  exact (inlL_of (l := []) (ls := [(3, LT fops)]) trivial mixed 8 Try.func53 (by kernel_rfl) (fun _ => none) hc h1.1 ⟨⟨_, bodyOf_at hc h1.2, okT⟩, trivial⟩).can
/-! ### compared -/
noncomputable def q (O : FOps) (F : Nat → Int → Nat) (G : Nat → Int → Int) (H : Nat → Int → Nat) (I : Nat → Int → Int) (k : Int) : Bool := eqW O (back fun c => F c k) (back fun c => H c k)
noncomputable def skQ : Sk := ⟨[(0, .c (.sl 2 0 18 false)), (1, .c (.sl 1 0 18 false)), (5, .c (.int .i64))], [(1, ⟨false, false, .rows 18⟩), (2, ⟨false, false, .rows 18⟩)], 3⟩
noncomputable def skQR : Sk := ⟨[(4, .c (.boolc false))], [(1, ⟨false, false, .rows 18⟩), (2, ⟨false, false, .rows 18⟩)], 3⟩
noncomputable def skQE : Sk := ⟨[], [(1, ⟨false, false, .rows 18⟩), (2, ⟨false, false, .rows 18⟩)], 3⟩
noncomputable def LQ (O : FOps) : List (Nat × CS) := [(34, gS (eqG O))]
set_option maxRecDepth 100000 in
theorem okLQ : AllOK Try.prog (LQ fops) := ⟨cEq, trivial⟩
noncomputable def cxQ (O : FOps) : Cx := ⟨Try.prog, O, orcN Try.prog O (LQ O) 8⟩
noncomputable def eqN : Nat := Try.f56.ntmps
noncomputable def onQ (a b : Bool) (t : Nat) : Option Bool := bif Nat.beq t 14 then some a else bif Nat.beq t 26 then some b else none
noncomputable def goQ (O : FOps) (a b : Bool) (sk : Sk) (F : Nat → Int → Nat) (G : Nat → Int → Int) (H : Nat → Int → Nat) (I : Nat → Int → Int) (n m k : Int) : Option (Option XK × List LD × List Bool) :=
  goL (cxQ O) eqN ⟨onQ a b, fun _ => none⟩ (bodyOf Try.f56 4) 3 60 skQ [] sk [.i n, .i m, .i k, .i m, .r (Row H I), .i n, .r (Row F G)]
noncomputable def idx (n m k : Int) : List Bool := [decide (k < n), decide (0 ≤ k ∧ k < n), decide (0 ≤ k ∧ k < n), decide (0 ≤ k ∧ k < m), decide (0 ≤ k ∧ k < m)]
set_option maxRecDepth 100000 in
theorem eq_step (O : FOps) (F : Nat → Int → Nat) (G : Nat → Int → Int) (H : Nat → Int → Nat) (I : Nat → Int → Int) (n m k : Int) : goQ O true false skQ F G H I n m k =
    some (none, [.i n, .i m, .i (IntKind.i64.wrap (k + 1)), .i m, .r (Row H I), .i n, .r (Row F G)], idx n m k ++ [!!(q O F G H I k), flatR (Row H I), flatR (Row F G)]) := by kernel_rfl
set_option maxRecDepth 100000 in
theorem eq_ret (O : FOps) (F : Nat → Int → Nat) (G : Nat → Int → Int) (H : Nat → Int → Nat) (I : Nat → Int → Int) (n m k : Int) : goQ O true true skQR F G H I n m k =
    some (some .ret, [.i m, .r (Row H I), .i n, .r (Row F G)], idx n m k ++ [!(q O F G H I k), flatR (Row H I), flatR (Row F G)]) := by kernel_rfl
set_option maxRecDepth 100000 in
theorem eq_end (O : FOps) (F : Nat → Int → Nat) (G : Nat → Int → Int) (H : Nat → Int → Nat) (I : Nat → Int → Int) (n m k : Int) : goQ O false true skQE F G H I n m k =
    some (some (.exit 0), [.i m, .r (Row H I), .i n, .r (Row F G)], [!decide (k < n), flatR (Row H I), flatR (Row F G)]) := by kernel_rfl
theorem idx_ok {n k : Int} (h0 : 0 ≤ k) (h1 : k < n) : AllT (idx n n k) := by
  have h2 : decide (0 ≤ k ∧ k < n) = true := by simp; omega
  exact AllT.cons (by simpa using h1) (AllT.cons h2 (AllT.cons h2 (AllT.cons h2 (AllT.cons h2 AllT.nil))))
theorem eq_loops (F : Nat → Int → Nat) (G : Nat → Int → Int) (H : Nat → Int → Nat) (I : Nat → Int → Int) (n : Int) (hn : n ≤ 1048576) : ∀ (m : Nat) (k : Int), 0 ≤ k → k + m = n →
    (eqFrom (q fops F G H I) k m = true → Loops (cxQ fops) eqN (fun _ => none) (bodyOf Try.f56 4) 3 60 skQ [.i n, .i n, .i k, .i n, .r (Row H I), .i n, .r (Row F G)] (.exit 0) skQE [.i n, .r (Row H I), .i n, .r (Row F G)]) ∧
    (eqFrom (q fops F G H I) k m = false → Loops (cxQ fops) eqN (fun _ => none) (bodyOf Try.f56 4) 3 60 skQ [.i n, .i n, .i k, .i n, .r (Row H I), .i n, .r (Row F G)] .ret skQR [.i n, .r (Row H I), .i n, .r (Row F G)]) := by
  have fl : AllT [flatR (Row H I), flatR (Row F G)] := AllT.cons (rowK_flat _ _ _) (AllT.cons (rowK_flat _ _ _) AllT.nil)
  intro m
  induction m with
  | zero =>
    intro k hk hkn
    have e : k = n := by omega
    subst e
    refine ⟨fun _ => .done (ts := onQ false true) (ρ := []) (eq_end fops F G H I k k k) (AllT.cons (by simp) fl), fun h => by cases h⟩
  | succ m ih =>
    intro k hk hkn
    have hlt : k < n := by omega
    obtain ⟨i1, i2⟩ := ih (k + 1) (by omega) (by omega)
    have hE : eqFrom (q fops F G H I) k (m + 1) = bif q fops F G H I k then eqFrom (q fops F G H I) (k + 1) m else false := rfl
    rw [hE]
    cases hq : q fops F G H I k with
    | true =>
      have h1 := eq_step fops F G H I n n k
      rw [wrap_succ hk (by omega)] at h1
      have ho : AllT (idx n n k ++ [!!(q fops F G H I k), flatR (Row H I), flatR (Row F G)]) := AllT.app (idx_ok hk hlt) (AllT.cons (by rw [hq]; rfl) fl)
      exact ⟨fun h => .step (ts := onQ true false) (ρ := []) h1 ho (i1 h), fun h => .step (ts := onQ true false) (ρ := []) h1 ho (i2 h)⟩
    | false =>
      refine ⟨fun h => (by cases h), fun _ => .done (ts := onQ true true) (ρ := []) (eq_ret fops F G H I n n k) (AllT.app (idx_ok hk hlt) (AllT.cons (by rw [hq]; rfl) fl))⟩
def PreQ (n m k n1 : Int) (row : Int → List SC) (m1 : Int) (row' : Int → List SC) : Prop :=
  m = n ∧ k = 0 ∧ n1 = n ∧ m1 = n ∧ 0 ≤ n ∧ n ≤ 1048576 ∧ Shape ts row ∧ Shape ts row'
noncomputable def FQ (O : FOps) : List LD → Option (XO × List Bool)
  | [.i n, .i m, .i k, .i m1, .r row', .i n1, .r row] => some ([(.s (!eqFrom (q O (datF row) (datG row) (datF row') (datG row')) 0 n.toNat), .ret, skQR, [.i m, .r row', .i n, .r row]), (.t, .exit 0, skQE, [.i m, .r row', .i n, .r row])], [pB (PreQ n m k n1 row m1 row')])
  | _ => none
noncomputable def LE (O : FOps) : List Ly → Top → Option Outs := orIter (cxQ O) eqN (bodyOf Try.f56 4) (loopL eqN 3 60 skQ [] (FQ O))
set_option maxRecDepth 100000 in
theorem okE : CodeOK Try.prog eqN (.loop (bodyOf Try.f56 4)) (LE fops) := by
  refine orIter_ok (l := LQ fops) okLQ mixed 8 (loopL_ok (cx := cxQ fops) (lp := fun _ => none) (fun ts => body_ok (l := LQ fops) okLQ mixed 8 _ ts) fun p r hr hob => ?_)
  unfold FQ at hr
  split at hr <;> cases hr
  rename_i n m k m1 row' n1 row
  obtain ⟨e1, e2, e3, e4, h0, hm, hs, hs'⟩ := pB_iff.1 hob.head
  obtain ⟨h1, h2⟩ := eq_loops (datF row) (datG row) (datF row') (datG row') n hm n.toNat 0 (Int.le_refl _) (by omega)
  have hs1 : Row (datF row) (datG row) = row := hs.symm
  have hs2 : Row (datF row') (datG row') = row' := hs'.symm
  rw [hs1, hs2] at h1 h2
  rw [e1, e2, e3, e4]
  cases hq : eqFrom (q fops (datF row) (datG row) (datF row') (datG row')) 0 n.toNat with
  | true => exact ⟨_, _, _, by simp [pickX, SB.val], h1 hq⟩
  | false => exact ⟨_, _, _, by simp [pickX, SB.val], h2 hq⟩
/-- The contract of laws.eqWoodS. -/
noncomputable def eqS (O : FOps) : CS := roS (canS (inl (cxQ O) Try.f56 ⟨fun _ => none, lpOf [(4, LE O)]⟩))
set_option maxRecDepth 100000 in
theorem cEqS : CallOK Try.prog 56 (eqS fops) := by
  have hb : Try.f56.body.isSome = true := by kernel_rfl
  obtain ⟨c, hc⟩ := Option.isSome_iff_exists.1 hb
  have h1 : (match Try.f56.body with | some c => onceB (loopsIn c) && (match loopAt 4 (loopsIn c) with | some _ => true | none => false) | none => false) = true := by kernel_rfl
  rw [hc] at h1
  simp only [Bool.and_eq_true] at h1
  exact (inlL_of (l := LQ fops) (ls := [(4, LE fops)]) okLQ mixed 8 Try.func56 (by kernel_rfl) (fun _ => none) hc h1.1 ⟨⟨_, bodyOf_at hc h1.2, okE⟩, trivial⟩).can.ro
theorem q_self (F : Nat → Int → Nat) (G : Nat → Int → Int) (m : Nat) : eqFrom (q fops F G F G) 0 m = true := eqFrom_all (fun k => by unfold q; exact eqW_self _) m 0
/-! ### marked -/
noncomputable def skM : Sk := ⟨[(0, .c (.sl 1 0 18 false)), (1, .c (.int .i64)), (5, .c (.int .i64))], [(1, ⟨true, false, .rows 18⟩)], 2⟩
noncomputable def skME : Sk := ⟨[(1, .c (.int .i64))], [], 2⟩
noncomputable def maN : Nat := Try.f62.ntmps
noncomputable def onM (b : Bool) (t : Nat) : Option Bool := bif Nat.beq t 12 then some b else none
noncomputable def goM (O : FOps) (b : Bool) (sk : Sk) (X : Nat → Int → Nat) (Y : Nat → Int → Int) (n u k : Int) : Option (Option XK × List LD × List Bool) :=
  goL (cxT O) maN ⟨onM b, fun _ => none⟩ (bodyOf Try.f62 2) 2 60 skM [] sk [.i n, .i u, .i k, .i n, .r (Row X Y)]
set_option maxRecDepth 100000 in
theorem ma_step (O : FOps) (X : Nat → Int → Nat) (Y : Nat → Int → Int) (n u k : Int) : goM O true skM X Y n u k =
    some (none, [.i n, .i (wr u 18), .i (IntKind.i64.wrap (k + 1)), .i n, .r (Row (fun c j => bif decide (j = k) then O.ofInt .f32 (wr u c) else X c j) (fun c j => bif decide (j = k) then IntKind.i64.wrap (wr u c) else Y c j))],
      decide (k < n) :: (List.replicate 36 (decide (0 ≤ k ∧ k < n)) ++ [flatR (Row (fun c j => bif decide (j = k) then O.ofInt .f32 (wr u c) else X c j) (fun c j => bif decide (j = k) then IntKind.i64.wrap (wr u c) else Y c j))])) := by kernel_rfl
set_option maxRecDepth 100000 in
theorem ma_end (O : FOps) (X : Nat → Int → Nat) (Y : Nat → Int → Int) (n u k : Int) : goM O false skME X Y n u k = some (some (.exit 0), [.i u], [!decide (k < n)]) := by kernel_rfl
theorem ma_loops (n : Int) (hn : n ≤ 1048576) : ∀ (m : Nat) (k u : Int) (X : Nat → Int → Nat) (Y : Nat → Int → Int), 0 ≤ k → k + m = n → 0 ≤ u → u + 18 * m ≤ 100000000 →
    Loops (cxT fops) maN (fun _ => none) (bodyOf Try.f62 2) 2 60 skM [.i n, .i u, .i k, .i n, .r (Row X Y)] (.exit 0) skME [.i (u + 18 * m)] := by
  intro m
  induction m with
  | zero =>
    intro k u X Y hk hkn hu hum
    have e : k = n := by omega
    subst e
    have h1 := ma_end fops X Y k u k
    rw [show u + 18 * ((0 : Nat) : Int) = u by omega]
    exact .done (ts := onM false) (ρ := []) h1 (AllT.cons (by simp) AllT.nil)
  | succ m ih =>
    intro k u X Y hk hkn hu hum
    have h1 := ma_step fops X Y n u k
    have hw : wr u 18 = u + 18 := wr_eq hu (by omega)
    rw [hw, wrap_succ hk (by omega)] at h1
    have h2 := ih (k + 1) (u + 18) (fun c j => bif decide (j = k) then fops.ofInt .f32 (wr u c) else X c j) (fun c j => bif decide (j = k) then IntKind.i64.wrap (wr u c) else Y c j) (by omega) (by omega) (by omega) (by omega)
    rw [show u + 18 + 18 * (m : Int) = u + 18 * ((m + 1 : Nat) : Int) by omega] at h2
    have hd : decide (k < n) = true := by simp; omega
    have hd2 : decide (0 ≤ k ∧ k < n) = true := by simp; omega
    exact .step (ts := onM true) (ρ := []) h1 (AllT.cons hd (AllT.app (AllT.rep hd2 _) (AllT.cons (rowK_flat _ _ _) AllT.nil))) h2
def PreM (n u k n1 : Int) (row : Int → List SC) : Prop := k = 0 ∧ n1 = n ∧ 0 ≤ n ∧ n ≤ 1048576 ∧ 0 ≤ u ∧ u ≤ 50000000 ∧ Shape ts row
noncomputable def FM : List LD → Option (XO × List Bool)
  | [.i n, .i u, .i k, .i n1, .r row] => some ([(.t, .exit 0, skME, [.i (u + 18 * n)])], [pB (PreM n u k n1 row)])
  | _ => none
noncomputable def LM (O : FOps) : List Ly → Top → Option Outs := orIter (cxT O) maN (bodyOf Try.f62 2) (loopL maN 2 60 skM [] FM)
set_option maxRecDepth 100000 in
theorem okM : CodeOK Try.prog maN (.loop (bodyOf Try.f62 2)) (LM fops) := by
  refine orIter_ok (l := []) trivial mixed 8 (loopL_ok (cx := cxT fops) (lp := fun _ => none) (fun ts => body_ok (l := []) trivial mixed 8 _ ts) fun p r hr hob => ?_)
  unfold FM at hr
  split at hr <;> cases hr
  rename_i n u k n1 row
  obtain ⟨e1, e2, h0, hm, hu, hu1, hs⟩ := pB_iff.1 hob.head
  refine ⟨_, _, _, rfl, ?_⟩
  have h1 := ma_loops n hm n.toNat 0 u (datF row) (datG row) (Int.le_refl _) (by omega) hu (by omega)
  have hs1 : Row (datF row) (datG row) = row := hs.symm
  rw [hs1, Int.toNat_of_nonneg h0] at h1
  rw [e1, e2]
  exact h1
/-- The contract of laws.markWoodS. -/
noncomputable def maS (O : FOps) : CS := canS (inl (cxT O) Try.f62 ⟨fun _ => none, lpOf [(2, LM O)]⟩)
set_option maxRecDepth 100000 in
theorem cMa : CallOK Try.prog 62 (maS fops) := by
  have hb : Try.f62.body.isSome = true := by kernel_rfl
  obtain ⟨c, hc⟩ := Option.isSome_iff_exists.1 hb
  have h1 : (match Try.f62.body with | some c => onceB (loopsIn c) && (match loopAt 2 (loopsIn c) with | some _ => true | none => false) | none => false) = true := by kernel_rfl
  rw [hc] at h1
  simp only [Bool.and_eq_true] at h1
  exact (inlL_of (l := []) (ls := [(2, LM fops)]) trivial mixed 8 Try.func62 (by kernel_rfl) (fun _ => none) hc h1.1 ⟨⟨_, bodyOf_at hc h1.2, okM⟩, trivial⟩).can
end Go.Proofs.Ytngdmcbjponlhaa.SlWood
