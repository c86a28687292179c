/- Parts of a proof, merged: SlFloat32, Pc, Ts0, Ts1, Ts2, Tz0, Tz1, Tz2, Gl, Fnr, Fns, Ih0, Ih1, Ih2, Ih3, Ih4. Nothing is assumed. -/
import Derived.Test.YtaoeigofmfpamaaMhC
/- Slices of Float32: how they are made, compared and marked. Nothing is assumed. -/
section
namespace Go.Proofs.Ytaoeigofmfpamaa.SlFloat32
open Go
noncomputable def ts : List KK := [.flt .f32]
noncomputable abbrev Row (F : Nat → Int → Nat) (G : Nat → Int → Int) : Int → List SC := rowK ts F G
theorem shape_row (F : Nat → Int → Nat) (G : Nat → Int → Int) : Shape ts (Row F G) := by
  unfold Shape
  funext j
  rfl
/-! ### made anew -/
noncomputable def skT : Sk := ⟨[(0, .c (.sl 1 0 1 false)), (3, .c (.sl 2 0 1 true)), (4, .c (.int .i64))], [(1, ⟨false, false, .rows 1⟩), (2, ⟨true, true, .rows 1⟩)], 3⟩
noncomputable def skTE : Sk := ⟨[(3, .c (.sl 2 0 1 true))], [(1, ⟨false, false, .rows 1⟩), (2, ⟨true, true, .rows 1⟩)], 3⟩
noncomputable def cxT (O : FOps) : Cx := ⟨Try.prog, O, orcN Try.prog O [] 8⟩
noncomputable def toN : Nat := Try.f22.ntmps
noncomputable def onT (b : Bool) (t : Nat) : Option Bool := bif Nat.beq t 11 then some b else none
noncomputable def goT (O : FOps) (b : Bool) (sk : Sk) (F : Nat → Int → Nat) (G : Nat → Int → Int) (X : Nat → Int → Nat) (Y : Nat → Int → Int) (n k : Int) : Option (Option XK × List LD × List Bool) :=
  goL (cxT O) toN ⟨onT b, fun _ => none⟩ (bodyOf Try.f22 3) 3 60 skT [] sk [.i n, .i n, .i k, .i n, .r (Row F G), .i n, .r (Row X Y)]
set_option maxRecDepth 100000 in
theorem to_step (O : FOps) (F : Nat → Int → Nat) (G : Nat → Int → Int) (X : Nat → Int → Nat) (Y : Nat → Int → Int) (n k : Int) : goT O true skT F G X Y n k =
    some (none, [.i n, .i n, .i (IntKind.i64.wrap (k + 1)), .i n, .r (Row F G), .i n, .r (Row (fun c j => bif decide (j = k) then F c k else X c j) (fun c j => bif decide (j = k) then G c k else Y c j))],
      [decide (k < n), decide (0 ≤ k ∧ k < n), decide (0 ≤ k ∧ k < n), decide (0 ≤ k ∧ k < n), decide (0 ≤ k ∧ k < n), flatR (Row F G), flatR (Row (fun c j => bif decide (j = k) then F c k else X c j) (fun c j => bif decide (j = k) then G c k else Y c j))]) := by kernel_rfl
set_option maxRecDepth 100000 in
theorem to_end (O : FOps) (F : Nat → Int → Nat) (G : Nat → Int → Int) (X : Nat → Int → Nat) (Y : Nat → Int → Int) (n k : Int) : goT O false skTE F G X Y n k =
    some (some (.exit 0), [.i n, .i n, .r (Row F G), .i n, .r (Row X Y)], [!decide (k < n), flatR (Row F G), flatR (Row X Y)]) := by kernel_rfl
noncomputable def PreT (n m k n1 : Int) (row : Int → List SC) (n2 : Int) (out : Int → List SC) : Prop :=
  m = n ∧ k = 0 ∧ n1 = n ∧ n2 = n ∧ 0 ≤ n ∧ n ≤ 1048576 ∧ Shape ts row ∧ out = Row (fun _ _ => 0) (fun _ _ => 0)
noncomputable def FT : List LD → Option (XO × List Bool)
  | [.i n, .i m, .i k, .i n1, .r row, .i n2, .r out] => some ([(.t, .exit 0, skTE, [.i n, .i n, .r row, .i n, .r (Row (clF n (datF row)) (clG n (datG row)))])], [pB (PreT n m k n1 row n2 out)])
  | _ => none
theorem to_loops (F : Nat → Int → Nat) (G : Nat → Int → Int) (n : Int) (hn : n ≤ 1048576) : ∀ (m : Nat) (k : Int), 0 ≤ k → k + m = n →
    Loops (cxT fops) toN (fun _ => none) (bodyOf Try.f22 3) 3 60 skT [.i n, .i n, .i k, .i n, .r (Row F G), .i n, .r (Row (clF k F) (clG k G))] (.exit 0) skTE [.i n, .i n, .r (Row F G), .i n, .r (Row (clF n F) (clG n G))] := by
  intro m
  induction m with
  | zero =>
    intro k hk hkn
    have e : k = n := by omega
    subst e
    refine .done (ts := onT false) (ρ := []) (to_end fops F G (clF k F) (clG k G) k k) ?_
    refine AllT.cons (by simp) (AllT.cons (rowK_flat _ _ _) (AllT.cons (rowK_flat _ _ _) AllT.nil))
  | succ m ih =>
    intro k hk hkn
    have h1 := to_step fops F G (clF k F) (clG k G) n k
    rw [clF_step hk, clG_step hk, wrap_succ hk (by omega)] at h1
    have hd : decide (k < n) = true := by simp; omega
    have hd2 : decide (0 ≤ k ∧ k < n) = true := by simp; omega
    exact .step (ts := onT true) (ρ := []) h1 (AllT.cons hd (AllT.cons hd2 (AllT.cons hd2 (AllT.cons hd2 (AllT.cons hd2 (AllT.cons (rowK_flat _ _ _) (AllT.cons (rowK_flat _ _ _) AllT.nil))))))) (ih (k + 1) (by omega) (by omega))
noncomputable def LT (O : FOps) : List Ly → Top → Option Outs := orIter (cxT O) toN (bodyOf Try.f22 3) (loopL toN 3 60 skT [] FT)
set_option maxRecDepth 100000 in
theorem okT : CodeOK Try.prog toN (.loop (bodyOf Try.f22 3)) (LT fops) := by
  refine orIter_ok (l := []) trivial mixed 8 (loopL_ok (cx := cxT fops) (lp := fun _ => none) (fun ts => body_ok (l := []) trivial mixed 8 _ ts) fun p r hr hob => ?_)
  unfold FT at hr
  split at hr <;> cases hr
  rename_i n m k n1 row n2 out
  obtain ⟨e1, e2, e3, e4, h0, hm, hs, e5⟩ := pB_iff.1 hob.head
  refine ⟨_, _, _, rfl, ?_⟩
  have h1 := to_loops (datF row) (datG row) n hm n.toNat 0 (Int.le_refl _) (by omega)
  rw [clF_zero, clG_zero] at h1
  rw [e1, e2, e3, e4, e5, hs]
  exact h1
/-- The contract of laws.toFloat32S. -/
noncomputable def toS (O : FOps) : CS := canS (inl (cxT O) Try.f22 ⟨fun _ => none, lpOf [(3, LT O)]⟩)
set_option maxRecDepth 100000 in
theorem cTo : CallOK Try.prog 22 (toS fops) := by
  have hb : Try.f22.body.isSome = true := by kernel_rfl
  obtain ⟨c, hc⟩ := Option.isSome_iff_exists.1 hb
  have h1 : (match Try.f22.body with | some c => onceB (loopsIn c) && (match loopAt 3 (loopsIn c) with | some _ => true | none => false) | none => false) = true := by kernel_rfl
  rw [hc] at h1
  simp only [Bool.and_eq_true] at h1
  exact (inlL_of (l := []) (ls := [(3, LT fops)]) trivial mixed 8 Try.func22 (by kernel_rfl) (fun _ => none) hc h1.1 ⟨⟨_, bodyOf_at hc h1.2, okT⟩, trivial⟩).can
/-! ### compared -/
noncomputable def q (O : FOps) (F : Nat → Int → Nat) (G : Nat → Int → Int) (H : Nat → Int → Nat) (I : Nat → Int → Int) (k : Int) : Bool := sf O (O.conv .f32 .f64 (F 0 k)) (O.conv .f32 .f64 (H 0 k))
noncomputable def skQ : Sk := ⟨[(0, .c (.sl 2 0 1 false)), (1, .c (.sl 1 0 1 false)), (5, .c (.int .i64))], [(1, ⟨false, false, .rows 1⟩), (2, ⟨false, false, .rows 1⟩)], 3⟩
noncomputable def skQR : Sk := ⟨[(4, .c (.boolc false))], [(1, ⟨false, false, .rows 1⟩), (2, ⟨false, false, .rows 1⟩)], 3⟩
noncomputable def skQE : Sk := ⟨[], [(1, ⟨false, false, .rows 1⟩), (2, ⟨false, false, .rows 1⟩)], 3⟩
noncomputable def LQ (O : FOps) : List (Nat × CS) := [(12, gS (sfG O))]
set_option maxRecDepth 100000 in
theorem okLQ : AllOK Try.prog (LQ fops) := ⟨cSf, trivial⟩
noncomputable def cxQ (O : FOps) : Cx := ⟨Try.prog, O, orcN Try.prog O (LQ O) 8⟩
noncomputable def eqN : Nat := Try.f24.ntmps
noncomputable def onQ (a b : Bool) (t : Nat) : Option Bool := bif Nat.beq t 14 then some a else bif Nat.beq t 28 then some b else none
noncomputable def goQ (O : FOps) (a b : Bool) (sk : Sk) (F : Nat → Int → Nat) (G : Nat → Int → Int) (H : Nat → Int → Nat) (I : Nat → Int → Int) (n m k : Int) : Option (Option XK × List LD × List Bool) :=
  goL (cxQ O) eqN ⟨onQ a b, fun _ => none⟩ (bodyOf Try.f24 4) 3 60 skQ [] sk [.i n, .i m, .i k, .i m, .r (Row H I), .i n, .r (Row F G)]
noncomputable def idx (n m k : Int) : List Bool := [decide (k < n), decide (0 ≤ k ∧ k < n), decide (0 ≤ k ∧ k < n), decide (0 ≤ k ∧ k < m), decide (0 ≤ k ∧ k < m)]
set_option maxRecDepth 100000 in
theorem eq_step (O : FOps) (F : Nat → Int → Nat) (G : Nat → Int → Int) (H : Nat → Int → Nat) (I : Nat → Int → Int) (n m k : Int) : goQ O true false skQ F G H I n m k =
    some (none, [.i n, .i m, .i (IntKind.i64.wrap (k + 1)), .i m, .r (Row H I), .i n, .r (Row F G)], idx n m k ++ [!!(q O F G H I k), flatR (Row H I), flatR (Row F G)]) := by kernel_rfl
set_option maxRecDepth 100000 in
theorem eq_ret (O : FOps) (F : Nat → Int → Nat) (G : Nat → Int → Int) (H : Nat → Int → Nat) (I : Nat → Int → Int) (n m k : Int) : goQ O true true skQR F G H I n m k =
    some (some .ret, [.i m, .r (Row H I), .i n, .r (Row F G)], idx n m k ++ [!(q O F G H I k), flatR (Row H I), flatR (Row F G)]) := by kernel_rfl
set_option maxRecDepth 100000 in
theorem eq_end (O : FOps) (F : Nat → Int → Nat) (G : Nat → Int → Int) (H : Nat → Int → Nat) (I : Nat → Int → Int) (n m k : Int) : goQ O false true skQE F G H I n m k =
    some (some (.exit 0), [.i m, .r (Row H I), .i n, .r (Row F G)], [!decide (k < n), flatR (Row H I), flatR (Row F G)]) := by kernel_rfl
theorem idx_ok {n k : Int} (h0 : 0 ≤ k) (h1 : k < n) : AllT (idx n n k) := by
  have h2 : decide (0 ≤ k ∧ k < n) = true := by simp; omega
  exact AllT.cons (by simpa using h1) (AllT.cons h2 (AllT.cons h2 (AllT.cons h2 (AllT.cons h2 AllT.nil))))
theorem eq_loops (F : Nat → Int → Nat) (G : Nat → Int → Int) (H : Nat → Int → Nat) (I : Nat → Int → Int) (n : Int) (hn : n ≤ 1048576) : ∀ (m : Nat) (k : Int), 0 ≤ k → k + m = n →
    (eqFrom (q fops F G H I) k m = true → Loops (cxQ fops) eqN (fun _ => none) (bodyOf Try.f24 4) 3 60 skQ [.i n, .i n, .i k, .i n, .r (Row H I), .i n, .r (Row F G)] (.exit 0) skQE [.i n, .r (Row H I), .i n, .r (Row F G)]) ∧
    (eqFrom (q fops F G H I) k m = false → Loops (cxQ fops) eqN (fun _ => none) (bodyOf Try.f24 4) 3 60 skQ [.i n, .i n, .i k, .i n, .r (Row H I), .i n, .r (Row F G)] .ret skQR [.i n, .r (Row H I), .i n, .r (Row F G)]) := by
  have fl : AllT [flatR (Row H I), flatR (Row F G)] := AllT.cons (rowK_flat _ _ _) (AllT.cons (rowK_flat _ _ _) AllT.nil)
  intro m
  induction m with
  | zero =>
    intro k hk hkn
    have e : k = n := by omega
    subst e
    refine ⟨fun _ => .done (ts := onQ false true) (ρ := []) (eq_end fops F G H I k k k) (AllT.cons (by simp) fl), fun h => by cases h⟩
  | succ m ih =>
    intro k hk hkn
    have hlt : k < n := by omega
    obtain ⟨i1, i2⟩ := ih (k + 1) (by omega) (by omega)
    have hE : eqFrom (q fops F G H I) k (m + 1) = bif q fops F G H I k then eqFrom (q fops F G H I) (k + 1) m else false := rfl
    rw [hE]
    cases hq : q fops F G H I k with
    | true =>
      have h1 := eq_step fops F G H I n n k
      rw [wrap_succ hk (by omega)] at h1
      have ho : AllT (idx n n k ++ [!!(q fops F G H I k), flatR (Row H I), flatR (Row F G)]) := AllT.app (idx_ok hk hlt) (AllT.cons (by rw [hq]; rfl) fl)
      exact ⟨fun h => .step (ts := onQ true false) (ρ := []) h1 ho (i1 h), fun h => .step (ts := onQ true false) (ρ := []) h1 ho (i2 h)⟩
    | false =>
      refine ⟨fun h => (by cases h), fun _ => .done (ts := onQ true true) (ρ := []) (eq_ret fops F G H I n n k) (AllT.app (idx_ok hk hlt) (AllT.cons (by rw [hq]; rfl) fl))⟩
def PreQ (n m k n1 : Int) (row : Int → List SC) (m1 : Int) (row' : Int → List SC) : Prop :=
  m = n ∧ k = 0 ∧ n1 = n ∧ m1 = n ∧ 0 ≤ n ∧ n ≤ 1048576 ∧ Shape ts row ∧ Shape ts row'
noncomputable def FQ (O : FOps) : List LD → Option (XO × List Bool)
  | [.i n, .i m, .i k, .i m1, .r row', .i n1, .r row] => some ([(.s (!eqFrom (q O (datF row) (datG row) (datF row') (datG row')) 0 n.toNat), .ret, skQR, [.i m, .r row', .i n, .r row]), (.t, .exit 0, skQE, [.i m, .r row', .i n, .r row])], [pB (PreQ n m k n1 row m1 row')])
  | _ => none
noncomputable def LE (O : FOps) : List Ly → Top → Option Outs := orIter (cxQ O) eqN (bodyOf Try.f24 4) (loopL eqN 3 60 skQ [] (FQ O))
set_option maxRecDepth 100000 in
theorem okE : CodeOK Try.prog eqN (.loop (bodyOf Try.f24 4)) (LE fops) := by
  refine orIter_ok (l := LQ fops) okLQ mixed 8 (loopL_ok (cx := cxQ fops) (lp := fun _ => none) (fun ts => body_ok (l := LQ fops) okLQ mixed 8 _ ts) fun p r hr hob => ?_)
  unfold FQ at hr
  split at hr <;> cases hr
  rename_i n m k m1 row' n1 row
  obtain ⟨e1, e2, e3, e4, h0, hm, hs, hs'⟩ := pB_iff.1 hob.head
  obtain ⟨h1, h2⟩ := eq_loops (datF row) (datG row) (datF row') (datG row') n hm n.toNat 0 (Int.le_refl _) (by omega)
  have hs1 : Row (datF row) (datG row) = row := hs.symm
  have hs2 : Row (datF row') (datG row') = row' := hs'.symm
  rw [hs1, hs2] at h1 h2
  rw [e1, e2, e3, e4]
  cases hq : eqFrom (q fops (datF row) (datG row) (datF row') (datG row')) 0 n.toNat with
  | true => exact ⟨_, _, _, by simp [pickX, SB.val], h1 hq⟩
  | false => exact ⟨_, _, _, by simp [pickX, SB.val], h2 hq⟩
/-- The contract of laws.eqFloat32S. -/
noncomputable def eqS (O : FOps) : CS := roS (canS (inl (cxQ O) Try.f24 ⟨fun _ => none, lpOf [(4, LE O)]⟩))
set_option maxRecDepth 100000 in
theorem cEqS : CallOK Try.prog 24 (eqS fops) := by
  have hb : Try.f24.body.isSome = true := by kernel_rfl
  obtain ⟨c, hc⟩ := Option.isSome_iff_exists.1 hb
  have h1 : (match Try.f24.body with | some c => onceB (loopsIn c) && (match loopAt 4 (loopsIn c) with | some _ => true | none => false) | none => false) = true := by kernel_rfl
  rw [hc] at h1
  simp only [Bool.and_eq_true] at h1
  exact (inlL_of (l := LQ fops) (ls := [(4, LE fops)]) okLQ mixed 8 Try.func24 (by kernel_rfl) (fun _ => none) hc h1.1 ⟨⟨_, bodyOf_at hc h1.2, okE⟩, trivial⟩).can.ro
theorem q_self (F : Nat → Int → Nat) (G : Nat → Int → Int) (m : Nat) : eqFrom (q fops F G F G) 0 m = true := eqFrom_all (fun k => by unfold q; exact sf_self _) m 0
/-! ### marked -/
noncomputable def mkF (O : FOps) (u : Int) (k : Int) (X : Nat → Int → Nat) (c : Nat) (j : Int) : Nat := bif decide (0 ≤ j) && decide (j < k) then O.ofInt .f32 (wr (u + 1 * j) c) else X c j
noncomputable def mkG (u : Int) (k : Int) (Y : Nat → Int → Int) (c : Nat) (j : Int) : Int := bif decide (0 ≤ j) && decide (j < k) then wr (u + 1 * j) c else Y c j
theorem mkF_zero (O : FOps) (u : Int) (X : Nat → Int → Nat) : mkF O u 0 X = X := by
  funext c j
  unfold mkF
  by_cases h : 0 ≤ j
  · rw [decide_eq_false (by omega : ¬ j < 0), Bool.and_false]; rfl
  · rw [decide_eq_false h]; rfl
theorem mkG_zero (u : Int) (X : Nat → Int → Int) : mkG u 0 X = X := by
  funext c j
  unfold mkG
  by_cases h : 0 ≤ j
  · rw [decide_eq_false (by omega : ¬ j < 0), Bool.and_false]; rfl
  · rw [decide_eq_false h]; rfl
theorem mkF_step {k : Int} (hk : 0 ≤ k) (O : FOps) (u : Int) (X : Nat → Int → Nat) : (fun c j => bif decide (j = k) then O.ofInt .f32 (wr (u + 1 * k) c) else mkF O u k X c j) = mkF O u (k + 1) X := by
  funext c j
  unfold mkF
  by_cases e : j = k
  · subst e
    have h1 : j < j + 1 := by omega
    simp [hk, h1]
  · rw [decide_eq_false e]
    by_cases h : j < k
    · rw [decide_eq_true h, decide_eq_true (by omega : j < k + 1)]; rfl
    · rw [decide_eq_false h, decide_eq_false (by omega : ¬ j < k + 1)]; rfl
theorem mkG_step {k : Int} (hk : 0 ≤ k) (u : Int) (X : Nat → Int → Int) : (fun c j => bif decide (j = k) then wr (u + 1 * k) c else mkG u k X c j) = mkG u (k + 1) X := by
  funext c j
  unfold mkG
  by_cases e : j = k
  · subst e
    have h1 : j < j + 1 := by omega
    simp [hk, h1]
  · rw [decide_eq_false e]
    by_cases h : j < k
    · rw [decide_eq_true h, decide_eq_true (by omega : j < k + 1)]; rfl
    · rw [decide_eq_false h, decide_eq_false (by omega : ¬ j < k + 1)]; rfl
noncomputable def skM : Sk := ⟨[(0, .c (.sl 1 0 1 false)), (1, .c (.int .i64)), (5, .c (.int .i64))], [(1, ⟨true, false, .rows 1⟩)], 2⟩
noncomputable def skME : Sk := ⟨[(1, .c (.int .i64))], [(1, ⟨true, false, .rows 1⟩)], 2⟩
noncomputable def maN : Nat := Try.f26.ntmps
noncomputable def onM (b : Bool) (t : Nat) : Option Bool := bif Nat.beq t 9 then some b else none
noncomputable def goM (O : FOps) (b : Bool) (sk : Sk) (X : Nat → Int → Nat) (Y : Nat → Int → Int) (n u k : Int) : Option (Option XK × List LD × List Bool) :=
  goL (cxT O) maN ⟨onM b, fun _ => none⟩ (bodyOf Try.f26 2) 2 60 skM [] sk [.i n, .i u, .i k, .i n, .r (Row X Y)]
set_option maxRecDepth 100000 in
theorem ma_step (O : FOps) (X : Nat → Int → Nat) (Y : Nat → Int → Int) (n u k : Int) : goM O true skM X Y n u k =
    some (none, [.i n, .i (wr u 1), .i (IntKind.i64.wrap (k + 1)), .i n, .r (Row (fun c j => bif decide (j = k) then O.ofInt .f32 (wr u c) else X c j) (fun c j => bif decide (j = k) then wr u c else Y c j))],
      decide (k < n) :: (List.replicate 2 (decide (0 ≤ k ∧ k < n)) ++ [flatR (Row (fun c j => bif decide (j = k) then O.ofInt .f32 (wr u c) else X c j) (fun c j => bif decide (j = k) then wr u c else Y c j))])) := by kernel_rfl
set_option maxRecDepth 100000 in
theorem ma_end (O : FOps) (X : Nat → Int → Nat) (Y : Nat → Int → Int) (n u k : Int) : goM O false skME X Y n u k = some (some (.exit 0), [.i u, .i n, .r (Row X Y)], [!decide (k < n), flatR (Row X Y)]) := by kernel_rfl
theorem ma_loops (n u : Int) (X : Nat → Int → Nat) (Y : Nat → Int → Int) (hn : n ≤ 1048576) (hu : 0 ≤ u) (hu2 : u ≤ 50000000) : ∀ (m : Nat) (k : Int), 0 ≤ k → k + m = n →
    Loops (cxT fops) maN (fun _ => none) (bodyOf Try.f26 2) 2 60 skM [.i n, .i (u + 1 * k), .i k, .i n, .r (Row (mkF fops u k X) (mkG u k Y))] (.exit 0) skME [.i (u + 1 * n), .i n, .r (Row (mkF fops u n X) (mkG u n Y))] := by
  intro m
  induction m with
  | zero =>
    intro k hk hkn
    have e : k = n := by omega
    subst e
    exact .done (ts := onM false) (ρ := []) (ma_end fops (mkF fops u k X) (mkG u k Y) k (u + 1 * k) k) (AllT.cons (by simp) (AllT.cons (rowK_flat _ _ _) AllT.nil))
  | succ m ih =>
    intro k hk hkn
    have h1 := ma_step fops (mkF fops u k X) (mkG u k Y) n (u + 1 * k) k
    have hw : wr (u + 1 * k) 1 = u + 1 * (k + 1) := by rw [wr_eq (by omega) (by omega)]; omega
    rw [mkF_step hk, mkG_step hk, hw, wrap_succ hk (by omega)] at h1
    have hd : decide (k < n) = true := by simp; omega
    have hd2 : decide (0 ≤ k ∧ k < n) = true := by simp; omega
    exact .step (ts := onM true) (ρ := []) h1 (AllT.cons hd (AllT.app (AllT.rep hd2 _) (AllT.cons (rowK_flat _ _ _) AllT.nil))) (ih (k + 1) (by omega) (by omega))
def PreM (n u k n1 : Int) (row : Int → List SC) : Prop := k = 0 ∧ n1 = n ∧ 0 ≤ n ∧ n ≤ 1048576 ∧ 0 ≤ u ∧ u ≤ 50000000 ∧ Shape ts row
noncomputable def FM (O : FOps) : List LD → Option (XO × List Bool)
  | [.i n, .i u, .i k, .i n1, .r row] => some ([(.t, .exit 0, skME, [.i (u + 1 * n), .i n, .r (Row (mkF O u n (datF row)) (mkG u n (datG row)))])], [pB (PreM n u k n1 row)])
  | _ => none
noncomputable def LM (O : FOps) : List Ly → Top → Option Outs := orIter (cxT O) maN (bodyOf Try.f26 2) (loopL maN 2 60 skM [] (FM O))
set_option maxRecDepth 100000 in
theorem okM : CodeOK Try.prog maN (.loop (bodyOf Try.f26 2)) (LM fops) := by
  refine orIter_ok (l := []) trivial mixed 8 (loopL_ok (cx := cxT fops) (lp := fun _ => none) (fun ts => body_ok (l := []) trivial mixed 8 _ ts) fun p r hr hob => ?_)
  unfold FM at hr
  split at hr <;> cases hr
  rename_i n u k n1 row
  obtain ⟨e1, e2, h0, hm, hu, hu1, hs⟩ := pB_iff.1 hob.head
  refine ⟨_, _, _, rfl, ?_⟩
  have h1 := ma_loops n u (datF row) (datG row) hm hu hu1 n.toNat 0 (Int.le_refl _) (by omega)
  have hs1 : Row (datF row) (datG row) = row := hs.symm
  rw [mkF_zero, mkG_zero, hs1, Int.mul_zero, Int.add_zero] at h1
  rw [e1, e2]
  exact h1
/-- The contract of laws.markFloat32S. -/
noncomputable def maS (O : FOps) : CS := canS (inl (cxT O) Try.f26 ⟨fun _ => none, lpOf [(2, LM O)]⟩)
set_option maxRecDepth 100000 in
theorem cMa : CallOK Try.prog 26 (maS fops) := by
  have hb : Try.f26.body.isSome = true := by kernel_rfl
  obtain ⟨c, hc⟩ := Option.isSome_iff_exists.1 hb
  have h1 : (match Try.f26.body with | some c => onceB (loopsIn c) && (match loopAt 2 (loopsIn c) with | some _ => true | none => false) | none => false) = true := by kernel_rfl
  rw [hc] at h1
  simp only [Bool.and_eq_true] at h1
  exact (inlL_of (l := []) (ls := [(2, LM fops)]) trivial mixed 8 Try.func26 (by kernel_rfl) (fun _ => none) hc h1.1 ⟨⟨_, bodyOf_at hc h1.2, okM⟩, trivial⟩).can
/-! ### held -/
theorem int_num (k : FloatKind) (n : Int) : nanb k (fops.ofInt k n) = false := write_not_nan k.format (.number (n < 0) n.natAbs 0) rfl
noncomputable def skH : Sk := ⟨[(0, .c (.sl 1 0 1 false)), (1, .c (.int .i64)), (5, .c (.int .i64))], [(1, ⟨false, false, .rows 1⟩)], 2⟩
noncomputable def skHE : Sk := ⟨[(1, .c (.int .i64))], [], 2⟩
noncomputable def heN : Nat := Try.f27.ntmps
noncomputable def onH (b : Bool) (t : Nat) : Option Bool := bif Nat.beq t 9 then some b else bif Nat.beq t 18 then some false else none
noncomputable def goH (O : FOps) (b : Bool) (sk : Sk) (F : Nat → Int → Nat) (G : Nat → Int → Int) (n u k : Int) : Option (Option XK × List LD × List Bool) :=
  goL (cxT O) heN ⟨onH b, fun _ => none⟩ (bodyOf Try.f27 2) 2 60 skH [] sk [.i n, .i u, .i k, .i n, .r (Row F G)]
noncomputable def hob (O : FOps) (F : Nat → Int → Nat) (G : Nat → Int → Int) (n u k : Int) : List Bool := [decide (k < n), decide (0 ≤ k ∧ k < n), decide (0 ≤ k ∧ k < n), !O.cmp .neq .f32 (F 0 k) (O.ofInt .f32 (wr u 0)), flatR (Row F G)]
set_option maxRecDepth 100000 in
theorem he_step (O : FOps) (F : Nat → Int → Nat) (G : Nat → Int → Int) (n u k : Int) : goH O true skH F G n u k =
    some (none, [.i n, .i (wr u 1), .i (IntKind.i64.wrap (k + 1)), .i n, .r (Row F G)], hob O F G n u k) := by kernel_rfl
set_option maxRecDepth 100000 in
theorem he_end (O : FOps) (F : Nat → Int → Nat) (G : Nat → Int → Int) (n u k : Int) : goH O false skHE F G n u k = some (some (.exit 0), [.i u], [!decide (k < n)]) := by kernel_rfl
theorem he_loops (n u : Int) (X : Nat → Int → Nat) (Y : Nat → Int → Int) (hn : n ≤ 1048576) (hu : 0 ≤ u) (hu2 : u ≤ 50000000) : ∀ (m : Nat) (k : Int), 0 ≤ k → k + m = n →
    Loops (cxT fops) heN (fun _ => none) (bodyOf Try.f27 2) 2 60 skH [.i n, .i (u + 1 * k), .i k, .i n, .r (Row (mkF fops u n X) (mkG u n Y))] (.exit 0) skHE [.i (u + 1 * n)] := by
  intro m
  induction m with
  | zero =>
    intro k hk hkn
    have e : k = n := by omega
    subst e
    exact .done (ts := onH false) (ρ := []) (he_end fops (mkF fops u k X) (mkG u k Y) k (u + 1 * k) k) (AllT.cons (by simp) AllT.nil)
  | succ m ih =>
    intro k hk hkn
    have h1 := he_step fops (mkF fops u n X) (mkG u n Y) n (u + 1 * k) k
    have hw : wr (u + 1 * k) 1 = u + 1 * (k + 1) := by rw [wr_eq (by omega) (by omega)]; omega
    rw [hw, wrap_succ hk (by omega)] at h1
    have hd : decide (k < n) = true := by simp; omega
    have hd2 : decide (0 ≤ k ∧ k < n) = true := by simp; omega
    have hg : (decide (0 ≤ k) && decide (k < n)) = true := by simp; omega
    have eF : ∀ c, mkF fops u n X c k = fops.ofInt .f32 (wr (u + 1 * k) c) := fun c => by unfold mkF; rw [hg]; rfl
    have eG : ∀ c, mkG u n Y c k = wr (u + 1 * k) c := fun c => by unfold mkG; rw [hg]; rfl
    have ho : AllT (hob fops (mkF fops u n X) (mkG u n Y) n (u + 1 * k) k) := AllT.cons hd (AllT.cons hd2 (AllT.cons hd2 (AllT.cons (by rw [eF, cmp_neq_self, int_num]; rfl) (AllT.cons (rowK_flat _ _ _) AllT.nil))))
    exact .step (ts := onH true) (ρ := []) h1 ho (ih (k + 1) (by omega) (by omega))
/-- The rows are marked, from 'u' on. -/
def Marked (u n : Int) (row : Int → List SC) : Prop := ∃ X Y, row = Row (mkF fops u n X) (mkG u n Y)
def PreH (n u k n1 : Int) (row : Int → List SC) : Prop := k = 0 ∧ n1 = n ∧ 0 ≤ n ∧ n ≤ 1048576 ∧ 0 ≤ u ∧ u ≤ 50000000 ∧ Marked u n row
noncomputable def FH : List LD → Option (XO × List Bool)
  | [.i n, .i u, .i k, .i n1, .r row] => some ([(.t, .exit 0, skHE, [.i (u + 1 * n)])], [pB (PreH n u k n1 row)])
  | _ => none
noncomputable def LH (O : FOps) : List Ly → Top → Option Outs := orIter (cxT O) heN (bodyOf Try.f27 2) (loopL heN 2 60 skH [] FH)
set_option maxRecDepth 100000 in
theorem okH : CodeOK Try.prog heN (.loop (bodyOf Try.f27 2)) (LH fops) := by
  refine orIter_ok (l := []) trivial mixed 8 (loopL_ok (cx := cxT fops) (lp := fun _ => none) (fun ts => body_ok (l := []) trivial mixed 8 _ ts) fun p r hr hob => ?_)
  unfold FH at hr
  split at hr <;> cases hr
  rename_i n u k n1 row
  obtain ⟨e1, e2, h0, hm, hu, hu1, X, Y, hs⟩ := pB_iff.1 hob.head
  refine ⟨_, _, _, rfl, ?_⟩
  have h1 := he_loops n u X Y hm hu hu1 n.toNat 0 (Int.le_refl _) (by omega)
  rw [Int.mul_zero, Int.add_zero] at h1
  rw [e1, e2, hs]
  exact h1
/-- The contract of laws.heldFloat32S. -/
noncomputable def heS (O : FOps) : CS := roS (canS (inl (cxT O) Try.f27 ⟨fun _ => none, lpOf [(2, LH O)]⟩))
set_option maxRecDepth 100000 in
theorem cHe : CallOK Try.prog 27 (heS fops) := by
  have hb : Try.f27.body.isSome = true := by kernel_rfl
  obtain ⟨c, hc⟩ := Option.isSome_iff_exists.1 hb
  have h1 : (match Try.f27.body with | some c => onceB (loopsIn c) && (match loopAt 2 (loopsIn c) with | some _ => true | none => false) | none => false) = true := by kernel_rfl
  rw [hc] at h1
  simp only [Bool.and_eq_true] at h1
  exact (inlL_of (l := []) (ls := [(2, LH fops)]) trivial mixed 8 Try.func27 (by kernel_rfl) (fun _ => none) hc h1.1 ⟨⟨_, bodyOf_at hc h1.2, okH⟩, trivial⟩).can.ro
/-! ### told by hand -/
noncomputable section
theorem shape_flat {row : Int → List SC} (h : Shape ts row) : flatR row = true := by rw [h]; exact rowK_flat _ _ _
/-- The rows of a copy. -/
def cpR (n : Int) (row : Int → List SC) : Int → List SC := Row (clF n (datF row)) (clG n (datG row))
/-- The rows when they are marked. -/
def mkR (O : FOps) (u n : Int) (row : Int → List SC) : Int → List SC := Row (mkF O u n (datF row)) (mkG u n (datG row))
def okN (n N : Int) (row : Int → List SC) : Bool := pB (N = n ∧ 0 ≤ n ∧ n ≤ 1048576 ∧ Shape ts row)
def okM' (n u N : Int) (row : Int → List SC) : Bool := pB (N = n ∧ 0 ≤ n ∧ n ≤ 1048576 ∧ 0 ≤ u ∧ u ≤ 50000000 ∧ Shape ts row)
def okH' (n u N : Int) (row : Int → List SC) : Bool := pB (N = n ∧ 0 ≤ n ∧ n ≤ 1048576 ∧ 0 ≤ u ∧ u ≤ 50000000 ∧ Marked u n row)
def okE' (n N : Int) (row : Int → List SC) (m M : Int) (row' : Int → List SC) : Bool := !decide (n = m) || pB (N = n ∧ M = n ∧ 0 ≤ n ∧ n ≤ 1048576 ∧ Shape ts row ∧ Shape ts row')
def eqR (O : FOps) (n m : Int) (row row' : Int → List SC) : Bool := bif !decide (n = m) then false else bif !eqFrom (q O (datF row) (datG row) (datF row') (datG row')) 0 n.toNat then false else true
theorem eqR_self (n : Int) (row : Int → List SC) : eqR fops n n row row = true := by
  unfold eqR
  rw [decide_eq_true rfl, q_self]
  rfl
def Z0 : Int → List SC := Row (fun _ _ => 0) (fun _ _ => 0)
set_option maxRecDepth 100000 in
theorem to_run (O : FOps) (f w o : Bool) (n N : Int) (row : Int → List SC) : nwS (inl (cxT O) Try.f22 ⟨fun _ => none, lpOf [(3, LT O)]⟩) 2 [.c (.sl 1 0 1 (.s n) f)] [(1, ⟨w, o, .rows 1 N row⟩)] =
    some ⟨.c (.sl 2 0 1 (.s n) true), [(2, some ⟨true, true, .rows 1 n (cpR n row)⟩)], 60, [decide (n = n ∧ 0 ≤ n ∧ n ≤ 100000000), flatR row, flatR Z0, pB (PreT n n 0 N row n Z0)]⟩ := by kernel_rfl
def toH : CS := fun base args rd => match args with
  | [.c (.sl i o es (.s n) _)] => match rd with
    | [(j, ⟨_, _, .rows st N row⟩)] => match Nat.beq base 2 && (Nat.beq i 1 && (Nat.beq o 0 && (Nat.beq es 1 && (Nat.beq j 1 && Nat.beq st 1)))) with
      | true => some ⟨.c (.sl 2 0 1 (.s n) true), [(2, some ⟨true, true, .rows 1 n (cpR n row)⟩)], 60, [okN n N row]⟩
      | false => none
    | _ => none
  | _ => none
set_option maxRecDepth 100000 in
theorem cTo0 : CallOK Try.prog 22 (inl (cxT fops) Try.f22 ⟨fun _ => none, lpOf [(3, LT fops)]⟩) := by
  have hb : Try.f22.body.isSome = true := by kernel_rfl
  obtain ⟨c, hc⟩ := Option.isSome_iff_exists.1 hb
  have h1 : (match Try.f22.body with | some c => onceB (loopsIn c) && (match loopAt 3 (loopsIn c) with | some _ => true | none => false) | none => false) = true := by kernel_rfl
  rw [hc] at h1
  simp only [Bool.and_eq_true] at h1
  exact inlL_of (l := []) (ls := [(3, LT fops)]) trivial mixed 8 Try.func22 (by kernel_rfl) (fun _ => none) hc h1.1 ⟨⟨_, bodyOf_at hc h1.2, okT⟩, trivial⟩
def toC (O : FOps) : CS := orS (canS toH) (inl (cxT O) Try.f22 noH)
set_option maxRecDepth 100000 in
theorem cToC : CallOK Try.prog 22 (toC fops) :=
  (CallOK.hand (H := toH) cTo0.nw fun b args rd e h hob => by
    unfold toH at h
    split at h <;> try (cases h; done)
    rename_i i o es n f
    split at h <;> try (cases h; done)
    rename_i j w o' st N row
    split at h <;> cases h
    rename_i hc
    simp only [Bool.and_eq_true, beqN] at hc
    obtain ⟨rfl, rfl, rfl, rfl, rfl, rfl⟩ := hc
    obtain ⟨rfl, h0, hm, hs⟩ := pB_iff.1 hob.head
    exact ⟨_, to_run fops f w o' N N row, AllT.cons (by simp; omega) (AllT.cons (shape_flat hs) (AllT.cons (rowK_flat _ _ _) (AllT.cons (pB_iff.2 ⟨rfl, rfl, rfl, rfl, h0, hm, hs, rfl⟩) AllT.nil)))⟩).can.or
    (inlN_of (l := []) trivial mixed 8 Try.func22 (by kernel_rfl) (fun _ => none))
set_option maxRecDepth 100000 in
theorem ma_run (O : FOps) (f o : Bool) (n N : Int) (u : SI) (row : Int → List SC) : inl (cxT O) Try.f26 ⟨fun _ => none, lpOf [(2, LM O)]⟩ 2 [.c (.sl 1 0 1 (.s n) f), .c (.int .i64 u)] [(1, ⟨true, o, .rows 1 N row⟩)] =
    some ⟨.c (.int .i64 (.s (u.val + 1 * n))), [(1, some ⟨true, false, .rows 1 n (mkR O u.val n row)⟩)], 60, [flatR row, pB (PreM n u.val 0 N row)]⟩ := by kernel_rfl
def maH (O : FOps) : CS := fun base args rd => match args with
  | [.c (.sl i o es (.s n) _), .c (.int .i64 u)] => match rd with
    | [(j, ⟨true, _, .rows st N row⟩)] => match Nat.beq base 2 && (Nat.beq i 1 && (Nat.beq o 0 && (Nat.beq es 1 && (Nat.beq j 1 && Nat.beq st 1)))) with
      | true => some ⟨.c (.int .i64 (.s (u.val + 1 * n))), [(1, some ⟨true, false, .rows 1 n (mkR O u.val n row)⟩)], 60, [okM' n u.val N row]⟩
      | false => none
    | _ => none
  | _ => none
set_option maxRecDepth 100000 in
theorem cMa0 : CallOK Try.prog 26 (inl (cxT fops) Try.f26 ⟨fun _ => none, lpOf [(2, LM fops)]⟩) := by
  have hb : Try.f26.body.isSome = true := by kernel_rfl
  obtain ⟨c, hc⟩ := Option.isSome_iff_exists.1 hb
  have h1 : (match Try.f26.body with | some c => onceB (loopsIn c) && (match loopAt 2 (loopsIn c) with | some _ => true | none => false) | none => false) = true := by kernel_rfl
  rw [hc] at h1
  simp only [Bool.and_eq_true] at h1
  exact inlL_of (l := []) (ls := [(2, LM fops)]) trivial mixed 8 Try.func26 (by kernel_rfl) (fun _ => none) hc h1.1 ⟨⟨_, bodyOf_at hc h1.2, okM⟩, trivial⟩
def maC (O : FOps) : CS := orS (canS (maH O)) (inl (cxT O) Try.f26 noH)
set_option maxRecDepth 100000 in
theorem cMaC : CallOK Try.prog 26 (maC fops) :=
  (CallOK.hand (H := maH fops) cMa0 fun b args rd e h hob => by
    unfold maH at h
    split at h <;> try (cases h; done)
    rename_i i o es n f u
    split at h <;> try (cases h; done)
    rename_i j o' st N row
    split at h <;> cases h
    rename_i hc
    simp only [Bool.and_eq_true, beqN] at hc
    obtain ⟨rfl, rfl, rfl, rfl, rfl, rfl⟩ := hc
    obtain ⟨rfl, h0, hm, hu, hu1, hs⟩ := pB_iff.1 hob.head
    exact ⟨_, ma_run fops f o' N N u row, AllT.cons (shape_flat hs) (AllT.cons (pB_iff.2 ⟨rfl, rfl, h0, hm, hu, hu1, hs⟩) AllT.nil)⟩).can.or
    (inlN_of (l := []) trivial mixed 8 Try.func26 (by kernel_rfl) (fun _ => none))
set_option maxRecDepth 100000 in
theorem he_run (O : FOps) (f w o : Bool) (n N : Int) (u : SI) (row : Int → List SC) : roS (inl (cxT O) Try.f27 ⟨fun _ => none, lpOf [(2, LH O)]⟩) 2 [.c (.sl 1 0 1 (.s n) f), .c (.int .i64 u)] [(1, ⟨w, o, .rows 1 N row⟩)] =
    some ⟨.c (.int .i64 (.s (u.val + 1 * n))), [], 60, [flatR row, pB (PreH n u.val 0 N row)]⟩ := by kernel_rfl
def heH : CS := fun base args rd => match args with
  | [.c (.sl i o es (.s n) _), .c (.int .i64 u)] => match rd with
    | [(j, ⟨_, _, .rows st N row⟩)] => match Nat.beq base 2 && (Nat.beq i 1 && (Nat.beq o 0 && (Nat.beq es 1 && (Nat.beq j 1 && Nat.beq st 1)))) with
      | true => some ⟨.c (.int .i64 (.s (u.val + 1 * n))), [], 60, [okH' n u.val N row]⟩
      | false => none
    | _ => none
  | _ => none
theorem marked_shape {u n : Int} {row : Int → List SC} (h : Marked u n row) : Shape ts row := by
  obtain ⟨X, Y, rfl⟩ := h
  exact shape_row _ _
theorem mkR_marked (u n : Int) (row : Int → List SC) : Marked u n (mkR fops u n row) := ⟨_, _, rfl⟩
set_option maxRecDepth 100000 in
theorem cHe0 : CallOK Try.prog 27 (inl (cxT fops) Try.f27 ⟨fun _ => none, lpOf [(2, LH fops)]⟩) := by
  have hb : Try.f27.body.isSome = true := by kernel_rfl
  obtain ⟨c, hc⟩ := Option.isSome_iff_exists.1 hb
  have h1 : (match Try.f27.body with | some c => onceB (loopsIn c) && (match loopAt 2 (loopsIn c) with | some _ => true | none => false) | none => false) = true := by kernel_rfl
  rw [hc] at h1
  simp only [Bool.and_eq_true] at h1
  exact inlL_of (l := []) (ls := [(2, LH fops)]) trivial mixed 8 Try.func27 (by kernel_rfl) (fun _ => none) hc h1.1 ⟨⟨_, bodyOf_at hc h1.2, okH⟩, trivial⟩
def heC (O : FOps) : CS := orS (canS heH) (inl (cxT O) Try.f27 noH)
set_option maxRecDepth 100000 in
theorem cHeC : CallOK Try.prog 27 (heC fops) :=
  (CallOK.hand (H := heH) cHe0.ro fun b args rd e h hob => by
    unfold heH at h
    split at h <;> try (cases h; done)
    rename_i i o es n f u
    split at h <;> try (cases h; done)
    rename_i j w o' st N row
    split at h <;> cases h
    rename_i hc
    simp only [Bool.and_eq_true, beqN] at hc
    obtain ⟨rfl, rfl, rfl, rfl, rfl, rfl⟩ := hc
    obtain ⟨rfl, h0, hm, hu, hu1, hs⟩ := pB_iff.1 hob.head
    exact ⟨_, he_run fops f w o' N N u row, AllT.cons (shape_flat (marked_shape hs)) (AllT.cons (pB_iff.2 ⟨rfl, rfl, h0, hm, hu, hu1, hs⟩) AllT.nil)⟩).can.or
    (inlN_of (l := []) trivial mixed 8 Try.func27 (by kernel_rfl) (fun _ => none))
set_option maxRecDepth 100000 in
theorem eq_run (O : FOps) (f w o f' w' o' : Bool) (n N m M : Int) (row row' : Int → List SC) : roS (inl (cxQ O) Try.f24 ⟨fun _ => none, lpOf [(4, LE O)]⟩) 3 [.c (.sl 2 0 1 (.s n) f), .c (.sl 1 0 1 (.s m) f')] [(1, ⟨w', o', .rows 1 M row'⟩), (2, ⟨w, o, .rows 1 N row⟩)] =
    some ⟨.c (.bool (.s (eqR O n m row row'))), [], 60, gdB (!decide (n = m)) [flatR row', flatR row, pB (PreQ n m 0 N row M row')]⟩ := by kernel_rfl
def eqH (O : FOps) : CS := fun base args rd => match args with
  | [.c (.sl i o es (.s n) _), .c (.sl i' o' es' (.s m) _)] => match rd with
    | [(j', ⟨_, _, .rows st' M row'⟩), (j, ⟨_, _, .rows st N row⟩)] => match Nat.beq base 3 && (Nat.beq i 2 && (Nat.beq o 0 && (Nat.beq es 1 && (Nat.beq j 2 && (Nat.beq st 1 && (Nat.beq i' 1 && (Nat.beq o' 0 && (Nat.beq es' 1 && (Nat.beq j' 1 && Nat.beq st' 1))))))))) with
      | true => some ⟨.c (.bool (.s (eqR O n m row row'))), [], 60, [okE' n N row m M row']⟩
      | false => none
    | _ => none
  | _ => none
set_option maxRecDepth 100000 in
theorem cEq0 : CallOK Try.prog 24 (inl (cxQ fops) Try.f24 ⟨fun _ => none, lpOf [(4, LE fops)]⟩) := by
  have hb : Try.f24.body.isSome = true := by kernel_rfl
  obtain ⟨c, hc⟩ := Option.isSome_iff_exists.1 hb
  have h1 : (match Try.f24.body with | some c => onceB (loopsIn c) && (match loopAt 4 (loopsIn c) with | some _ => true | none => false) | none => false) = true := by kernel_rfl
  rw [hc] at h1
  simp only [Bool.and_eq_true] at h1
  exact inlL_of (l := LQ fops) (ls := [(4, LE fops)]) okLQ mixed 8 Try.func24 (by kernel_rfl) (fun _ => none) hc h1.1 ⟨⟨_, bodyOf_at hc h1.2, okE⟩, trivial⟩
def eqC (O : FOps) : CS := orS (canS (eqH O)) (inl (cxQ O) Try.f24 noH)
set_option maxRecDepth 100000 in
theorem cEqC : CallOK Try.prog 24 (eqC fops) :=
  (CallOK.hand (H := eqH fops) cEq0.ro fun b args rd e h hob => by
    unfold eqH at h
    split at h <;> try (cases h; done)
    rename_i i o es n f i' o' es' m f'
    split at h <;> try (cases h; done)
    rename_i j' w' p' st' M row' j w p st N row
    split at h <;> cases h
    rename_i hc
    simp only [Bool.and_eq_true, beqN] at hc
    obtain ⟨rfl, rfl, rfl, rfl, rfl, rfl, rfl, rfl, rfl, rfl, rfl⟩ := hc
    refine ⟨_, eq_run fops f w p f' w' p' n N m M row row', gdB_ok fun hg => ?_⟩
    have hnm : decide (n = m) = true := by simpa using hg
    have ho := hob.head
    unfold okE' at ho
    rw [hnm] at ho
    obtain ⟨e1, e2, h0, hm, hs, hs'⟩ := pB_iff.1 (show pB _ = true from ho)
    exact AllT.cons (shape_flat hs') (AllT.cons (shape_flat hs) (AllT.cons (pB_iff.2 ⟨(of_decide_eq_true hnm).symm, rfl, e1, e2, h0, hm, hs, hs'⟩) AllT.nil))).can.or
    (inlN_of (l := LQ fops) okLQ mixed 8 Try.func24 (by kernel_rfl) (fun _ => none))
end
end Go.Proofs.Ytaoeigofmfpamaa.SlFloat32
end

/- Pieces of code, run from a state that is told in part; what lies aside stays. Nothing is assumed. -/
section
namespace Go.Proofs.Ytaoeigofmfpamaa
open Go
noncomputable section

/-! ### memory, seen otherwise -/
/-- 'g'' says no more than 'g'. -/
structure Wk (E E' : EM) (g g' : Seg) : Prop where
  rw : g'.rw = true → g.rw = true
  own : g'.own = true → g.own = true
  len : g'.body.len ≤ g.body.len
  at_ : ∀ k v, k < g'.body.len → RelC E (g.body.at k) v → RelC E' (g'.body.at k) v
theorem Wk.ext {E E' : EM} (h : Ext E E') (g : Seg) : Wk E E' g g := ⟨id, id, Nat.le_refl _, fun _ _ _ r => r.mono h⟩
theorem Wk.ro {E E' : EM} {g : Seg} (h : Ext E E') : Wk E E' g ⟨false, false, g.body⟩ := ⟨fun h => (by cases h), fun h => (by cases h), Nat.le_refl _, fun _ _ _ r => r.mono h⟩
/-- Rows of a kind, told otherwise. -/
theorem Wk.rows {E E' : EM} {rw own rw' own' : Bool} {st : Nat} {n n' : Int} {row row' : Int → List SC} (h1 : rw' = true → rw = true) (h2 : own' = true → own = true) (hn : n' ≤ n)
    (h : ∀ (j : Int) c v, 0 ≤ j → j < n' → RelC E ((row j).getD c .any) v → RelC E' ((row' j).getD c .any) v) : Wk E E' ⟨rw, own, .rows st n row⟩ ⟨rw', own', .rows st n' row'⟩ := by
  refine ⟨h1, h2, Nat.mul_le_mul_left _ (by omega), fun k v hk hv => ?_⟩
  have hk' : k < st * n'.toNat := hk
  have hq : k / st < n'.toNat := Nat.div_lt_of_lt_mul hk'
  have h3 : ∀ q : Nat, q < n'.toNat → (0 : Int) ≤ (q : Int) ∧ (q : Int) < n' := fun q hq => by omega
  exact h ((k / st : Nat) : Int) (k % st) v (h3 _ hq).1 (h3 _ hq).2 hv
theorem SegAt.wk {E E' : EM} {b o z : Nat} {g g' : Seg} {w : World} {cs : Array Value} {T : TypeId} {fr : Nat × Nat} (h : SegAt E b o z g w cs T fr) (k : Wk E E' g g') : SegAt E' b o z g' w cs T fr :=
  ⟨h.heap, Nat.le_trans k.len h.le, h.fit, fun ho => h.own (k.own ho), fun hr => h.fz (k.rw hr), fun i hi => let ⟨v, a, r⟩ := h.cell i (Nat.lt_of_lt_of_le hi k.len); ⟨v, a, k.at_ i v hi r⟩⟩
section
variable {w0 w w' : World} {T0 : Nat → Nat → Prop} {E : EM} {sg : Nat → Option Seg}
/-- Another view of the same memory: ids called otherwise, less said. -/
theorem MemRel.map (hm : MemRel w0 T0 E sg w) (σ : Nat → Nat) {E2 : EM} {sg2 : Nat → Option Seg} (h : ∀ j g2, sg2 j = some g2 → ∃ g, sg (σ j) = some g ∧ E2 j = E (σ j) ∧ Wk E E2 g g2)
    (hinj : ∀ i j g h, sg2 i = some g → sg2 j = some h → i ≠ j → (g.rw = true ∨ h.rw = true) → σ i ≠ σ j) : MemRel w0 T0 E2 sg2 w := by
  refine ⟨fun j g2 hj => ?_, fun i j g k b o z b' o' z' hij hg hk hrw hi hj => ?_, fun j g2 b o z hj hrw hE => ?_, hm.fr, hm.tab⟩
  · obtain ⟨g, h1, h2, h3⟩ := h j g2 hj
    obtain ⟨b, o, z, cs, T, fr, e, s⟩ := hm.segs _ g h1
    exact ⟨b, o, z, cs, T, fr, h2.trans e, s.wk h3⟩
  · obtain ⟨ga, a1, a2, a3⟩ := h i g hg
    obtain ⟨gb, b1, b2, b3⟩ := h j k hk
    exact hm.disj _ _ ga gb b o z b' o' z' (hinj i j g k hg hk hij hrw) a1 b1 (hrw.imp a3.rw b3.rw) (a2.symm.trans hi) (b2.symm.trans hj)
  · obtain ⟨g, h1, h2, h3⟩ := h j g2 hj
    exact hm.tch _ g b o z h1 (h3.rw hrw) (h2.symm.trans hE)
/-- The memory that a piece is handed. -/
theorem MemRel.focus (hm : MemRel w0 T0 E sg w) (σ : Nat → Nat) {Ep : EM} {rd : List (Nat × Seg)} (h : ∀ j g2, findS j rd = some g2 → ∃ g, sg (σ j) = some g ∧ Ep j = E (σ j) ∧ Wk E Ep g g2)
    (hinj : ∀ i j g h, findS i rd = some g → findS j rd = some h → i ≠ j → (g.rw = true ∨ h.rw = true) → σ i ≠ σ j) : MemRel w (Tch Ep rd) Ep (fun i => findS i rd) w := by
  have h0 := hm.map σ (E2 := Ep) (sg2 := fun i => findS i rd) h hinj
  refine ⟨h0.segs, h0.disj, fun i g b o z hg hr hb => .inr fun k h1 h2 => ⟨i, g, o, z, hg, hr, hb, h1, h2⟩, Fr.refl _ _, hm.fr.tabs hm.tab.1 hm.tab.2, fun b k hb ⟨i, g, o, z, p1, p2, p3, p4, p5⟩ => ?_⟩
  rcases h0.tch i g b o z p1 p2 p3 with r1 | r1
  · obtain ⟨t, fr, e⟩ := hm.tab.1 b hb
    exact absurd (lt_of_heap e) (by omega)
  · exact hm.tab.2 b k hb (r1 k p4 p5)
/-- What a piece leaves, laid back: each segment comes from the piece's, or is one that the piece did not touch. -/
theorem MemRel.back (hm : MemRel w0 T0 E sg w) {σ : Nat → Nat} {Ep E' E2 : EM} {rd : List (Nat × Seg)} {sg' sg2 : Nat → Option Seg} (κ : Nat → Option Nat)
    (hE : ∀ i g, findS i rd = some g → Ep i = E (σ i) ∧ ∃ g0, sg (σ i) = some g0 ∧ (g.rw = true → g0.rw = true))
    (hx : Ext Ep E') (hc : MemRel w (Tch Ep rd) E' sg' w')
    (h1 : ∀ j i g2, sg2 j = some g2 → κ j = some i → ∃ g', sg' i = some g' ∧ E2 j = E' i ∧ Wk E' E2 g' g2 ∧ ((∃ gr, findS i rd = some gr ∧ (g2.rw = true → gr.rw = true) ∧ σ i = j) ∨ (Ep i = none ∧ g'.rw = true)))
    (h2 : ∀ j g2, sg2 j = some g2 → κ j = none → ∃ g0, sg j = some g0 ∧ E2 j = E j ∧ Wk E E2 g0 g2 ∧ ∀ i gr, findS i rd = some gr → gr.rw = true → σ i ≠ j)
    (hinj : ∀ j j' i g g', sg2 j = some g → sg2 j' = some g' → κ j = some i → κ j' = some i → j = j') : MemRel w0 T0 E2 sg2 w' := by
  have blk : ∀ i g, sg i = some g → ∀ b o z, E i = some (b, o, z) → b < w.heap.size := fun i g hg b o z hb => by
    obtain ⟨b', o', z', cs', T', fr', e, s⟩ := hm.segs i g hg
    rw [hb] at e; cases e; exact lt_of_heap s.heap
  have apart : ∀ j g0, sg j = some g0 → (∀ i gr, findS i rd = some gr → gr.rw = true → σ i ≠ j) → ∀ b o z, E j = some (b, o, z) → ∀ k, o ≤ k → k < o + z → ¬ Tch Ep rd b k := by
    intro j g0 hg hj b o z hb k k1 k2 ⟨i, gi, oi, zi, p1, p2, p3, p4, p5⟩
    obtain ⟨e1, g00, e2, e3⟩ := hE i gi p1
    rcases hm.disj (σ i) j g00 g0 b oi zi b o z (hj i gi p1 p2) e2 hg (.inl (e3 p2)) (e1.symm.trans p3) hb with d | d | d | d | d
    · exact d rfl
    all_goals omega
  have mixed : ∀ j j' i g g', sg2 j = some g → sg2 j' = some g' → κ j = some i → κ j' = none → j ≠ j' → (g.rw = true ∨ g'.rw = true) → ∀ b o z b' o' z', E2 j = some (b, o, z) → E2 j' = some (b', o', z') → b ≠ b' ∨ o + z ≤ o' ∨ o' + z' ≤ o ∨ z = 0 ∨ z' = 0 := by
    intro j j' i g g' hg hg' hk hk' hjj hrw b o z b' o' z' hb hb'
    obtain ⟨q, q1, q2, q3, q4⟩ := h1 j i g hg hk
    obtain ⟨r, r1, r2, r3, r4⟩ := h2 j' g' hg' hk'
    rw [r2] at hb'
    rcases q4 with ⟨gr, t1, t2, t3⟩ | ⟨t1, t2⟩
    · obtain ⟨e1, g00, e2, e3⟩ := hE i gr t1
      obtain ⟨b0, o0, z0, cs0, T00, fr0, e0, _⟩ := hm.segs _ g00 e2
      have e4 : E' i = some (b0, o0, z0) := hx i _ (e1.trans e0)
      rw [q2, e4] at hb; cases hb
      exact hm.disj (σ i) j' g00 r b o z b' o' z' (by rw [t3]; exact hjj) e2 r1 (hrw.imp (fun h => e3 (t2 h)) r3.rw) e0 hb'
    · rw [q2] at hb
      rcases hc.tch i q b o z q1 t2 hb with n1 | n1
      · exact .inl (Nat.ne_of_gt (Nat.lt_of_lt_of_le (blk j' r r1 b' o' z' hb') n1))
      · by_cases hbb : b = b'
        · subst hbb
          by_cases ho : o + z ≤ o'
          · exact .inr (.inl ho)
          · by_cases ho' : o' + z' ≤ o
            · exact .inr (.inr (.inl ho'))
            · by_cases hz : z = 0
              · exact .inr (.inr (.inr (.inl hz)))
              · by_cases hz' : z' = 0
                · exact .inr (.inr (.inr (.inr hz')))
                · exact absurd (n1 (max o o') (by omega) (by omega)) (apart j' r r1 r4 b o' z' hb' (max o o') (by omega) (by omega))
        · exact .inl hbb
  refine ⟨fun j g hj => ?_, fun i j g h b o z b' o' z' hij hg hh hr hb hb' => ?_, fun j g b o z hg hr hb => ?_, hm.fr.trans hc.fr ?_, hm.tab⟩
  · cases hk : κ j with
    | some i =>
      obtain ⟨q, q1, q2, q3, q4⟩ := h1 j i g hj hk
      obtain ⟨b, o, z, cs, T, fr, e, s⟩ := hc.segs i q q1
      exact ⟨b, o, z, cs, T, fr, q2.trans e, s.wk q3⟩
    | none =>
      obtain ⟨r, r1, r2, r3, r4⟩ := h2 j g hj hk
      obtain ⟨b, o, z, cs, T, fr, e, s⟩ := hm.segs j r r1
      obtain ⟨cs', s'⟩ := s.frame hc.fr (apart j r r1 r4 b o z e)
      exact ⟨b, o, z, cs', T, fr, r2.trans e, s'.wk r3⟩
  · cases hk : κ i with
    | some i' => cases hk' : κ j with
      | some j' =>
        obtain ⟨q, q1, q2, q3, q4⟩ := h1 i i' g hg hk
        obtain ⟨r, r1, r2, r3, r4⟩ := h1 j j' h hh hk'
        refine hc.disj i' j' q r b o z b' o' z' (fun e => hij ?_) q1 r1 (hr.imp q3.rw r3.rw) (q2.symm.trans hb) (r2.symm.trans hb')
        subst e; exact hinj i j i' g h hg hh hk hk'
      | none => exact mixed i j i' g h hg hh hk hk' hij hr b o z b' o' z' hb hb'
    | none => cases hk' : κ j with
      | some j' =>
        rcases mixed j i j' h g hh hg hk' hk (Ne.symm hij) (Or.symm hr) b' o' z' b o z hb' hb with d | d | d | d | d
        · exact .inl (Ne.symm d)
        all_goals omega
      | none =>
        obtain ⟨q, q1, q2, q3, q4⟩ := h2 i g hg hk
        obtain ⟨r, r1, r2, r3, r4⟩ := h2 j h hh hk'
        exact hm.disj i j q r b o z b' o' z' hij q1 r1 (hr.imp q3.rw r3.rw) (q2.symm.trans hb) (r2.symm.trans hb')
  · have cellOk : ∀ k, Tch Ep rd b k → w0.heap.size ≤ b ∨ T0 b k := by
      rintro k ⟨i, gi, oi, zi, p1, p2, p3, p4, p5⟩
      obtain ⟨e1, g00, e2, e3⟩ := hE i gi p1
      exact (hm.tch (σ i) g00 b oi zi e2 (e3 p2) (e1.symm.trans p3)).imp id fun h => h k p4 p5
    cases hk : κ j with
    | some i =>
      obtain ⟨q, q1, q2, q3, q4⟩ := h1 j i g hg hk
      rcases hc.tch i q b o z q1 (q3.rw hr) (q2.symm.trans hb) with n1 | n1
      · exact .inl (Nat.le_trans hm.fr.size n1)
      · by_cases hb0 : w0.heap.size ≤ b
        · exact .inl hb0
        · exact .inr fun k k1 k2 => (cellOk k (n1 k k1 k2)).resolve_left hb0
    | none =>
      obtain ⟨r, r1, r2, r3, r4⟩ := h2 j g hg hk
      exact hm.tch j r b o z r1 (r3.rw hr) (r2.symm.trans hb)
  · rintro b k hb ⟨i, gi, oi, zi, p1, p2, p3, p4, p5⟩
    obtain ⟨e1, g00, e2, e3⟩ := hE i gi p1
    rcases hm.tch (σ i) g00 b oi zi e2 (e3 p2) (e1.symm.trans p3) with r1 | r1
    · omega
    · exact r1 k p4 p5
end

/-! ### a piece -/
def onceId : List (Nat × Seg) → Bool
  | [] => true
  | (i, _) :: l => !hasId i l && onceId l
def sgOfRd (l : List (Nat × Seg)) : List (Nat × Option Seg) := List.rec (motive := fun _ => List (Nat × Option Seg)) [] (fun p _ ih => (p.1, some p.2) :: ih) l
def runV (cx : Cx) (N : Nat) (h : Hn) (x : Code) (va : List (Nat × SV)) (rd : List (Nat × Seg)) (nx j : Nat) (ts is : List Nat) : Option (Option XK × List SV × List (Option Seg) × List Bool) :=
  match Nat.ble 1 nx && onceId rd with
  | false => none
  | true => anysK N (Top.empty nx) fun T0 => setTsK va T0 fun T1 => T1.setSsK (sgOfRd rd) fun T => bindO (sx cx N h x [] T) fun o => bindO (wayJ o.abr o.nrm j) fun r => match Nat.ble r.1.2.next 900 with
    | true => some (r.1.1, ts.map (getT [r.1.2.ly]), is.map (getS [r.1.2.ly]), o.obs ++ r.2)
    | false => none
def Pts (E : EM) (a : Act) : List Nat → List SV → Prop
  | t :: ts, v :: vs => RelV E v (a.tmps.getD t undef) ∧ Pts E a ts vs
  | _, _ => True
def Psg (sg : Nat → Option Seg) : List Nat → List (Option Seg) → Prop
  | i :: is, s :: ss => sg i = s ∧ Psg sg is ss
  | _, _ => True
theorem Pts.mono {E E' : EM} (h : Ext E E') {a : Act} : ∀ {ts : List Nat} {vs : List SV}, Pts E a ts vs → Pts E' a ts vs
  | [], _, _ => trivial
  | _ :: _, [], _ => trivial
  | _ :: _, _ :: _, ⟨h1, h2⟩ => ⟨h1.mono h, h2.mono h⟩
theorem sgOfRd_mem {rd : List (Nat × Seg)} {i : Nat} {g : Seg} (h1 : onceId rd = true) (h : (i, some g) ∈ sgOfRd rd) : findS i rd = some g := by
  induction rd with
  | nil => cases h
  | cons p l ih =>
    obtain ⟨j, s⟩ := p
    simp only [onceId, Bool.and_eq_true, Bool.not_eq_true'] at h1
    have h' : (i, some g) ∈ (j, some s) :: sgOfRd l := h
    simp only [findS]
    rcases List.mem_cons.1 h' with h' | h'
    · cases h'; rw [beqN.2 rfl]
    · have h2 := ih h1.2 h'
      split
      · rename_i hb
        rw [beqN] at hb; subst hb
        rw [hasId_find h1.1] at h2; cases h2
      · exact h2
section
variable {P : Program} {N : Nat} {cx : Cx} {h : Hn} {x : Code}
theorem pieceV (hx : CodeOK P N x (sx cx N h x)) {va : List (Nat × SV)} {rd : List (Nat × Seg)} {nx j : Nat} {ts is : List Nat} {k : Option XK} {vs : List SV} {ss : List (Option Seg)} {ob : List Bool} (hrun : runV cx N h x va rd nx j ts is = some (k, vs, ss, ob)) (hob : AllT ob)
    {E : EM} {a : Act} {w w0 : World} {T0 : Nat → Nat → Prop} (hs : ∀ p ∈ va, RelV E p.2 (a.tmps.getD p.1 undef)) (hsz : a.tmps.size = N) (hd : a.defers = []) (hm : MemRel w0 T0 E (fun i => findS i rd) w) (hE : ∀ i, nx ≤ i → i < 900 → E i = none) :
    x.wp P (fun e a' w' => e = exitOf k ∧ a'.tmps.size = N ∧ a'.defers = [] ∧ ∃ E' sg', Ext E E' ∧ (∀ i, E' i ≠ none → E i ≠ none ∨ (nx ≤ i ∧ i < 900)) ∧ Pts E' a' ts vs ∧ Psg sg' is ss ∧ MemRel w0 T0 E' sg' w') a w := by
  unfold runV at hrun
  split at hrun <;> try (cases hrun; done)
  rename_i hc
  simp only [Bool.and_eq_true, Nat.ble_eq] at hc
  rw [anysK_eq, setTsK_eq, setSsK_eq] at hrun
  have hT : (setTs va (anys N (Top.empty nx))).setSs (sgOfRd rd) = onT N [] [] nx va (sgOfRd rd) := rfl
  rw [hT] at hrun
  obtain ⟨o, ho, hrun⟩ := bindO_some hrun
  obtain ⟨⟨⟨k1, T1⟩, ob2⟩, hw, hrun⟩ := bindO_some hrun
  simp only at hrun
  split at hrun <;> try (cases hrun; done)
  rename_i hb
  rw [Nat.ble_eq] at hb
  cases hrun
  obtain ⟨hob1, hob2⟩ := hob.append
  obtain ⟨k', T', s1, s2, s3⟩ := hx _ _ o ho hob1
  have hsel := wayJ_sel hw hob2
  rw [hsel] at s1
  cases s1
  have hst : SRel N ⟨E, nx, 900⟩ w0 T0 E (getT ((onT N [] [] nx va (sgOfRd rd)).ly :: [])) (getS ((onT N [] [] nx va (sgOfRd rd)).ly :: [])) (onT N [] [] nx va (sgOfRd rd)).next a w := by
    rw [onT_next]
    refine ⟨fun t => ?_, hsz, hd, hm.sub fun i g hg => ?_, fun i hi => .inl hi, hE, Nat.le_refl _, hc.1⟩
    · unfold onT
      rw [getT_setSs, getT_setSs]
      refine setTs_good (Q := fun t x => RelV E x (a.tmps.getD t undef)) [] va _ (fun t x hx => hs (t, x) hx) (fun t => ?_) t
      rcases cover_T [] N [] nx (fun _ _ => rfl) t with h | ⟨hN, h⟩
      · rw [h]; trivial
      · rw [h]
        show a.tmps.getD t undef = undef
        rw [Array.getD_eq_getD_getElem?, Array.getElem?_eq_none (by omega)]; rfl
    · exact sgOfRd_mem hc.2 (onT_S (ks := []) (fun _ _ => rfl) hg)
  refine wp_mono (s3 ⟨E, nx, 900⟩ w0 T0 E a w hst hb) fun e a' w' hp => ?_
  obtain ⟨rfl, E', he, hr⟩ := hp
  refine ⟨rfl, hr.size, hr.dfr, E', _, he, fun i hi => (hr.news i hi).imp id fun h => ⟨h.1, Nat.lt_of_lt_of_le h.2 hb⟩, ?_, ?_, hr.mem⟩
  · have : ∀ l : List Nat, Pts E' a' l (l.map (getT [T1.ly])) := by
      intro l
      induction l with
      | nil => trivial
      | cons t l ih => exact ⟨hr.tm t, ih⟩
    exact this ts
  · have : ∀ l : List Nat, Psg (getS [T1.ly]) l (l.map (getS [T1.ly])) := by
      intro l
      induction l with
      | nil => trivial
      | cons t l ih => exact ⟨rfl, ih⟩
    exact this is
end
/-! ### ids of a piece, ids of the whole -/
def lkN : List (Nat × Nat) → Nat → Option Nat
  | [], _ => none
  | (i, k) :: l, j => if j = i then some k else lkN l j
theorem lkN_mem : ∀ {l : List (Nat × Nat)} {i k : Nat}, lkN l i = some k → (i, k) ∈ l
  | (j, m) :: l, i, k, h => by
    unfold lkN at h
    split at h
    · rename_i e; cases h; subst e; exact List.mem_cons_self ..
    · exact List.mem_cons_of_mem _ (lkN_mem h)
def alE (E : EM) (l : List (Nat × Nat)) : EM := fun j => if j < 900 then (match lkN l j with
  | some g => E g
  | none => none) else E j
def upE (E E' : EM) (u : List (Nat × Nat)) : EM := fun j => match lkN u j with
  | some i => E' i
  | none => if j < 900 then none else E j
def upS (sg : Nat → Option Seg) (u : List (Nat × Seg)) : Nat → Option Seg := fun j => match findS j u with
  | some s => some s
  | none => sg j
theorem findS_in : ∀ {l : List (Nat × Seg)} {i : Nat} {s : Seg}, findS i l = some s → (i, s) ∈ l
  | (j, m) :: l, i, k, h => by
    unfold findS at h
    split at h
    · rename_i e; cases h; rw [beqN] at e; subst e; exact List.mem_cons_self ..
    · exact List.mem_cons_of_mem _ (findS_in h)
theorem sl_as {E E' : EM} {i j o es : Nat} {len : SI} {f : Bool} {v : Value} (h : RelC E (.sl i o es len f) v) (he : ∀ x, E i = some x → E' j = some x) (hj : j ≠ 0) (f' : Bool) (hf : f' = true → f = true) : RelC E' (.sl j o es len f') v := by
  obtain ⟨base, n, cap, h1, h2, h3, h4, h5⟩ := h
  refine ⟨base, n, cap, h1, h2, h3, h4, fun a ha => ?_⟩
  obtain ⟨g, b, o', z, e, q1, q2⟩ := h5 a ha
  exact ⟨hj, b, o', z, he _ e, q1, fun h => q2 (hf h)⟩
section
variable {P : Program} {N : Nat} {cx : Cx} {h : Hn} {x : Code}
/-- What may be laid back behind a piece. -/
structure UpOK (E : EM) (sg : Nat → Option Seg) (rd : List (Nat × Seg)) (l : List (Nat × Nat)) (E' : EM) (sg' : Nat → Option Seg) (u : List (Nat × Nat)) (us : List (Nat × Seg)) : Prop where
  src : ∀ p ∈ us, ∃ i g', lkN u p.1 = some i ∧ sg' i = some g' ∧ Wk E' (upE E E' u) g' p.2 ∧ ((∃ gr, findS i rd = some gr ∧ (p.2.rw = true → gr.rw = true) ∧ lkN l i = some p.1) ∨ (lkN l i = none ∧ i < 900 ∧ g'.rw = true))
  cov : ∀ p ∈ u, (findS p.1 us).isSome = true
  inj : ∀ p ∈ u, ∀ q ∈ u, p.2 = q.2 → p.1 = q.1
  wr : ∀ p ∈ rd, p.2.rw = true → ∃ g, lkN l p.1 = some g ∧ (lkN u g).isSome = true
  ext : Ext E (upE E E' u)
/-- Memory without some ids. -/
def rmS (sg : Nat → Option Seg) (dr : List Nat) : Nat → Option Seg := fun j => if j ∈ dr then none else sg j
theorem rmS_some {sg : Nat → Option Seg} {dr : List Nat} {j : Nat} {g : Seg} (h : rmS sg dr j = some g) : j ∉ dr ∧ sg j = some g := by
  unfold rmS at h
  split at h
  · cases h
  · rename_i hn; exact ⟨hn, h⟩
structure UpD (E : EM) (sg : Nat → Option Seg) (rd : List (Nat × Seg)) (l : List (Nat × Nat)) (E' : EM) (sg' : Nat → Option Seg) (u : List (Nat × Nat)) (us : List (Nat × Seg)) (dr : List Nat) : Prop where
  src : ∀ p ∈ us, ∃ i g', lkN u p.1 = some i ∧ sg' i = some g' ∧ Wk E' (upE E E' u) g' p.2 ∧ ((∃ gr, findS i rd = some gr ∧ (p.2.rw = true → gr.rw = true) ∧ lkN l i = some p.1) ∨ (lkN l i = none ∧ i < 900 ∧ g'.rw = true))
  cov : ∀ p ∈ u, (findS p.1 us).isSome = true
  inj : ∀ p ∈ u, ∀ q ∈ u, p.2 = q.2 → p.1 = q.1
  wr : ∀ p ∈ rd, p.2.rw = true → ∃ g, lkN l p.1 = some g ∧ ((lkN u g).isSome = true ∨ g ∈ dr)
  ext : Ext E (upE E E' u)
theorem stepD (hx : CodeOK P N x (sx cx N h x)) {va : List (Nat × SV)} {rd : List (Nat × Seg)} {nx j : Nat} {ts is : List Nat} {k : Option XK} {vs : List SV} {ss : List (Option Seg)} {ob : List Bool} (hrun : runV cx N h x va rd nx j ts is = some (k, vs, ss, ob)) (hob : AllT ob)
    {E : EM} {sg : Nat → Option Seg} {a : Act} {w w0 : World} {T0 : Nat → Nat → Prop} (hm : MemRel w0 T0 E sg w) (l : List (Nat × Nat)) (hl : ∀ p ∈ l, p.1 < nx ∧ p.1 < 900 ∧ 900 ≤ p.2) (hsn : ∀ j g, sg j = some g → 900 ≤ j)
    (hs : ∀ p ∈ va, RelV (alE E l) p.2 (a.tmps.getD p.1 undef)) (hsz : a.tmps.size = N) (hd : a.defers = [])
    (hrd : ∀ p ∈ rd, ∃ g s0, lkN l p.1 = some g ∧ sg g = some s0 ∧ Wk E (alE E l) s0 p.2)
    (hinj : ∀ p ∈ rd, ∀ q ∈ rd, p.1 ≠ q.1 → (p.2.rw = true ∨ q.2.rw = true) → lkN l p.1 ≠ lkN l q.1) :
    x.wp P (fun e a' w' => e = exitOf k ∧ a'.tmps.size = N ∧ a'.defers = [] ∧ ∃ E' sg', Ext (alE E l) E' ∧ (∀ i, i < nx ∨ 900 ≤ i → E' i = alE E l i) ∧ Pts E' a' ts vs ∧ Psg sg' is ss ∧
      ∀ u us dr, UpD E sg rd l E' sg' u us dr → MemRel w0 T0 (upE E E' u) (rmS (upS sg us) dr) w') a w := by
  have hEp : ∀ i g, lkN l i = some g → alE E l i = E g := fun i g h => by
    have := hl _ (lkN_mem h)
    unfold alE
    rw [if_pos this.2.1, h]
  have hfind : ∀ i g, findS i rd = some g → ∃ gi s0, lkN l i = some gi ∧ sg gi = some s0 ∧ Wk E (alE E l) s0 g := fun i g h => hrd (i, g) (findS_in h)
  let σ : Nat → Nat := fun i => (lkN l i).getD i
  have hσ : ∀ i g, lkN l i = some g → σ i = g := fun i g h => by show (lkN l i).getD i = g; rw [h]; rfl
  have hf := hm.focus σ (Ep := alE E l) (rd := rd) (fun i g h => by
    obtain ⟨gi, s0, h1, h2, h3⟩ := hfind i g h
    exact ⟨s0, by rw [hσ i gi h1]; exact h2, by rw [hσ i gi h1]; exact hEp i gi h1, h3⟩) (fun i j g k hg hk hij hrw => by
    obtain ⟨gi, s0, h1, h2, h3⟩ := hfind i g hg
    obtain ⟨gj, s1, k1, k2, k3⟩ := hfind j k hk
    rw [hσ i gi h1, hσ j gj k1]
    intro e
    exact hinj (i, g) (findS_in hg) (j, k) (findS_in hk) hij hrw (by rw [h1, k1, e]))
  refine wp_mono (pieceV hx hrun hob hs hsz hd hf fun i h1 h2 => ?_) fun e a' w' hp => ?_
  · unfold alE
    rw [if_pos h2]
    cases hk : lkN l i with
    | none => rfl
    | some g => have := hl _ (lkN_mem hk); simp only at this; omega
  obtain ⟨h1, h2, h3, E', sg', h4, h5, h6, h7, h8⟩ := hp
  refine ⟨h1, h2, h3, E', sg', h4, fun i hi => ?_, h6, h7, fun u us dr hu => ?_⟩
  · cases hE : alE E l i with
    | some y => exact h4 i y hE
    | none =>
      cases hE' : E' i with
      | none => rfl
      | some y => rcases h5 i (by rw [hE']; simp) with h | h
                  · exact absurd hE h
                  · omega
  refine hm.back (σ := σ) (rd := rd) (E' := E') (sg' := sg') (Ep := alE E l) (fun j => match findS j us with
    | some _ => lkN u j
    | none => none) (fun i g hg => ?_) h4 h8 (fun j i g2 hg hk => ?_) (fun j g2 hg hk => ?_) (fun j j' i g g' hg hg' hk hk' => ?_)
  · obtain ⟨gi, s0, k1, k2, k3⟩ := hfind i g hg
    rw [hσ i gi k1]
    exact ⟨hEp i gi k1, s0, k2, k3.rw⟩
  · replace hg := (rmS_some hg).2
    unfold upS at hg
    cases hf : findS j us with
    | none => rw [hf] at hk; cases hk
    | some s =>
      rw [hf] at hg hk
      cases hg
      simp only at hk
      obtain ⟨i', g', q1, q2, q3, q4⟩ := hu.src (j, _) (findS_in hf)
      simp only at q1
      rw [hk] at q1; cases q1
      refine ⟨g', q2, by unfold upE; rw [hk], q3, ?_⟩
      rcases q4 with ⟨gr, r1, r2, r3⟩ | ⟨r1, r2, r3⟩
      · exact .inl ⟨gr, r1, r2, hσ i j r3⟩
      · exact .inr ⟨by unfold alE; rw [if_pos r2, r1], r3⟩
  · have hdr := (rmS_some hg).1
    replace hg := (rmS_some hg).2
    unfold upS at hg
    cases hf : findS j us with
    | some s =>
      exfalso
      rw [hf] at hk
      simp only at hk
      obtain ⟨i', g', q1, _⟩ := hu.src (j, _) (findS_in hf)
      simp only at q1
      rw [hk] at q1; cases q1
    | none =>
      rw [hf] at hg
      have hun : lkN u j = none := by
        cases h : lkN u j with
        | none => rfl
        | some i =>
          have := hu.cov _ (lkN_mem h)
          simp only at this
          rw [hf] at this; cases this
      have hj := hsn j g2 hg
      refine ⟨g2, hg, by unfold upE; rw [hun]; simp only; rw [if_neg (by omega)], Wk.ext hu.ext g2, fun i gr hi hr e => ?_⟩
      obtain ⟨g, k1, k2⟩ := hu.wr (i, gr) (findS_in hi) hr
      simp only at k1
      rw [hσ i g k1] at e
      subst e
      rcases k2 with k2 | k2
      · rw [hun] at k2; cases k2
      · exact hdr k2
  · cases hf : findS j us with
    | none => rw [hf] at hk; cases hk
    | some s => cases hf' : findS j' us with
      | none => rw [hf'] at hk'; cases hk'
      | some s' =>
        rw [hf] at hk; rw [hf'] at hk'
        exact hu.inj _ (lkN_mem hk) _ (lkN_mem hk') rfl
theorem stepG (hx : CodeOK P N x (sx cx N h x)) {va : List (Nat × SV)} {rd : List (Nat × Seg)} {nx j : Nat} {ts is : List Nat} {k : Option XK} {vs : List SV} {ss : List (Option Seg)} {ob : List Bool} (hrun : runV cx N h x va rd nx j ts is = some (k, vs, ss, ob)) (hob : AllT ob)
    {E : EM} {sg : Nat → Option Seg} {a : Act} {w w0 : World} {T0 : Nat → Nat → Prop} (hm : MemRel w0 T0 E sg w) (l : List (Nat × Nat)) (hl : ∀ p ∈ l, p.1 < nx ∧ p.1 < 900 ∧ 900 ≤ p.2) (hsn : ∀ j g, sg j = some g → 900 ≤ j)
    (hs : ∀ p ∈ va, RelV (alE E l) p.2 (a.tmps.getD p.1 undef)) (hsz : a.tmps.size = N) (hd : a.defers = [])
    (hrd : ∀ p ∈ rd, ∃ g s0, lkN l p.1 = some g ∧ sg g = some s0 ∧ Wk E (alE E l) s0 p.2)
    (hinj : ∀ p ∈ rd, ∀ q ∈ rd, p.1 ≠ q.1 → (p.2.rw = true ∨ q.2.rw = true) → lkN l p.1 ≠ lkN l q.1) :
    x.wp P (fun e a' w' => e = exitOf k ∧ a'.tmps.size = N ∧ a'.defers = [] ∧ ∃ E' sg', Ext (alE E l) E' ∧ (∀ i, i < nx ∨ 900 ≤ i → E' i = alE E l i) ∧ Pts E' a' ts vs ∧ Psg sg' is ss ∧
      ∀ u us, UpOK E sg rd l E' sg' u us → MemRel w0 T0 (upE E E' u) (upS sg us) w') a w := by
  refine wp_mono (stepD hx hrun hob hm l hl hsn hs hsz hd hrd hinj) fun e a' w' hp => ?_
  obtain ⟨h1, h2, h3, E', sg', h4, h5, h6, h7, h8⟩ := hp
  exact ⟨h1, h2, h3, E', sg', h4, h5, h6, h7, fun u us hu => (h8 u us [] ⟨hu.src, hu.cov, hu.inj, fun p hp hr => let ⟨g, k1, k2⟩ := hu.wr p hp hr; ⟨g, k1, .inl k2⟩, hu.ext⟩).sub fun j g hg => by unfold rmS; rw [if_neg (by simp)]; exact hg⟩
end
/-- A hint is no contract: it is never met. -/
theorem hintOK {P : Program} {f : FuncId} (l : List SC) : CallOK P f (hntS l) := by
  intro E base args vals rd w e hs hob
  cases hs
  exact absurd hob.head (by simp)
/-- A loop with an invariant. -/
theorem wp_loop_inv {P : Program} {x : Code} {Q : Exit → Act → World → Prop} (I : Nat → Act → World → Prop)
    (hstep : ∀ m a w, I m a w → x.wp P (fun e a' w' => (e = .normal ∧ ∃ m', m' < m ∧ I m' a' w') ∨ (e ≠ .normal ∧ Q e a' w')) a w) : ∀ m a w, I m a w → (Code.loop x).wp P Q a w := by
  have key : ∀ n m a w, m < n → I m a w → Code.rounds P x Q n a w := by
    intro n
    induction n with
    | zero => intro m a w h; omega
    | succ n ih =>
      intro m a w hmn hI
      rw [rounds_succ]
      refine wp_mono (hstep m a w hI) fun e a' w' hp => ?_
      rcases hp with ⟨rfl, m', h1, h2⟩ | ⟨h1, h2⟩
      · exact ih m' a' w' (by omega) h2
      · cases e <;> first | exact absurd rfl h1 | exact h2
  exact fun m a w h => wp_loop_rounds (m + 1) (key (m + 1) m a w (by omega) h)
/-- From a function's body to its call. -/
theorem call_body {P : Program} {f : FuncId} {fn : Func} {c : Code} (hf : P.funcs[f]? = some fn) (hname : (fn.name == "runtime.NumGoroutine") = false) (hb : fn.body = some c) {vals : Array Value} {w : World} {post : Value → World → Prop} (hsz : vals.size ≤ fn.ntmps)
    (h : ∀ a : Act, a.tmps.size = fn.ntmps → a.defers = [] → (∀ t, a.tmps.getD t undef = vals.toList.getD t undef) → c.wp P (bodyPost P fn fun e w' => ∃ v, e = .returned v ∧ post v w') a w) : NextOK P ((callFunc f vals).run P w) post := by
  have hrun : (callFunc f vals).run P w = .ok (.enter f vals) w := by
    have hne : ¬ fn.name = "runtime.NumGoroutine" := by simpa using hname
    simp [callFunc, hf, hne, hb]
  rw [hrun]
  show Calls P f vals w _
  refine calls_of_wp hf hb (h _ (by simp; omega) rfl fun t => ?_)
  rw [Array.getD_eq_getD_getElem?, List.getD_eq_getElem?_getD, Array.getElem?_append, Array.getElem?_toList]
  split
  · rfl
  · rename_i hge
    rw [Array.getElem?_eq_none (xs := vals) (by omega), Array.getElem?_replicate]
    split <;> rfl
/-- The whole: memory whose ids begin at 900. -/
structure GM (w0 : World) (T0 : Nat → Nat → Prop) (E : EM) (sg : Nat → Option Seg) (w : World) : Prop where
  mem : MemRel w0 T0 E sg w
  sn : ∀ j g, sg j = some g → 900 ≤ j
  en : ∀ j, j < 900 → E j = none
theorem GM.nil {w0 w : World} {T0 : Nat → Nat → Prop} {E E' : EM} {sg : Nat → Option Seg} (h : GM w0 T0 E sg w) : upE E E' [] = E := by
  funext j
  show (if j < 900 then none else E j) = E j
  split
  · rename_i hj; exact (h.en j hj).symm
  · rfl
/-- A row's number in a family. -/
def gid (f p : Nat) : Nat := 1000 + 32 * p + f
def isF (f j : Nat) : Bool := decide (1000 ≤ j) && decide ((j - 1000) % 32 = f)
def posF (j : Nat) : Nat := (j - 1000) / 32
theorem isF_gid {f f' p : Nat} (hf : f < 32) : isF f' (gid f p) = decide (f = f') := by
  unfold isF gid
  have h1 : (1000 + 32 * p + f - 1000) % 32 = f := by omega
  rw [h1, decide_eq_true (by omega : 1000 ≤ 1000 + 32 * p + f)]; rfl
theorem pos_gid {f p : Nat} (hf : f < 32) : posF (gid f p) = p := by unfold posF gid; omega
theorem isF_iff {f j : Nat} (hf : f < 32) : isF f j = true ↔ j = gid f (posF j) := by
  unfold isF gid posF
  simp only [Bool.and_eq_true, decide_eq_true_eq]
  omega
/-- The header of a row. -/
def hd1 (id : Nat) (n : Int) : List SC := [.sl id 0 1 (.s n) false]
def hdr (f : Nat) (L : Nat → Int) (j : Int) : List SC := hd1 (gid f j.toNat) (L j.toNat)
/-- Memory, and a slice of slices of one's own: 'n' headers under 'h', the first 'm' rows under 'f'. -/
def ovl (sg : Nat → Option Seg) (h f : Nat) (m n : Int) (hd : Int → List SC) (L : Nat → Int) (R : Nat → Int → List SC) : Nat → Option Seg := fun j =>
  if j = h then some ⟨true, true, .rows 1 n hd⟩ else if isF f j = true ∧ ((posF j : Nat) : Int) < m then some ⟨true, true, .rows 1 (L (posF j)) (R (posF j))⟩ else sg j
/-- A slice of slices of floats in memory. -/
structure SSof (sg : Nat → Option Seg) (rw : Bool) (hA f : Nat) (n : Int) (L : Nat → Int) (R : Nat → Int → List SC) : Prop where
  hd : 0 < n → ∃ o, sg hA = some ⟨rw, o, .rows 1 n (hdr f L)⟩
  row : ∀ p : Nat, (p : Int) < n → (∃ o, sg (gid f p) = some ⟨rw, o, .rows 1 (L p) (R p)⟩) ∧ 0 ≤ L p ∧ L p ≤ 1048576 ∧ Shape SlFloat32.ts (R p)
theorem results1 {P : Program} {fn : Func} {r : Nat} {tmps : Array Value} {w : World} (h : fn.results.toList = [.tmp r]) : (results fn tmps).run P w = .ok (tmps.getD r undef) w := by
  rw [results_eq, Array.mapM_eq_mapM_toList]
  simp only [map_eq_pure_bind, bind_assoc, pure_bind]
  rw [h, List.mapM_cons]
  simp only [Sem.run_bind, Result.andThen_ok, List.mapM_nil, Sem.run_pure]
  rfl
theorem results2 {P : Program} {fn : Func} {r s : Nat} {tmps : Array Value} {w : World} (h : fn.results.toList = [.tmp r, .tmp s]) : (results fn tmps).run P w = .ok (.tuple #[tmps.getD r undef, tmps.getD s undef]) w := by
  rw [results_eq, Array.mapM_eq_mapM_toList]
  simp only [map_eq_pure_bind, bind_assoc, pure_bind]
  rw [h, List.mapM_cons, List.mapM_cons]
  simp only [Sem.run_bind, Result.andThen_ok, List.mapM_nil, Sem.run_pure]
  rfl
theorem findS_cons (j i : Nat) (s : Seg) (l : List (Nat × Seg)) : findS j ((i, s) :: l) = if j = i then some s else findS j l := by
  simp only [findS]
  by_cases h : j = i
  · rw [if_pos h, beqN.2 h]
  · rw [if_neg h]
    have : Nat.beq j i = false := by cases hb : Nat.beq j i; rfl; exact absurd (beqN.1 hb) h
    rw [this]
theorem findS_nil (j : Nat) : findS j [] = none := rfl
theorem Wk.flat {E E' : EM} {rw own rw' own' : Bool} {st : Nat} {n : Int} {row : Int → List SC} (h1 : rw' = true → rw = true) (h2 : own' = true → own = true) (hf : flatR row = true) : Wk E E' ⟨rw, own, .rows st n row⟩ ⟨rw', own', .rows st n row⟩ :=
  Wk.rows h1 h2 (Int.le_refl _) fun j c _ _ _ r => flatC_ok (flatL_getD (flatR_ok hf j) c) r
/-- A row of one cell. -/
theorem one_row {E E' : EM} {x x' : SC} (h : ∀ v, RelC E x v → RelC E' x' v) {c : Nat} {v : Value} (hr : RelC E (([x] : List SC).getD c .any) v) : RelC E' (([x'] : List SC).getD c .any) v := by
  cases c with
  | zero => exact h v hr
  | succ c => exact hr
theorem one_any {E E' : EM} {x : SC} {c : Nat} {v : Value} (hr : RelC E (([x] : List SC).getD c .any) v) : RelC E' (([.any] : List SC).getD c .any) v := by
  cases c with
  | zero => exact hr.one
  | succ c => exact hr
theorem nil_as {E E' : EM} {v : Value} (h : RelC E (.sl 0 0 0 (.c 0) false) v) : RelC E' (.sl 0 0 0 (.c 0) false) v := by
  obtain ⟨base, n, cap, h1, h2, h3, h4, h5⟩ := h
  exact ⟨base, n, cap, h1, h2, h3, h4, fun a ha => absurd rfl (h5 a ha).1⟩
theorem gid_ge (f p : Nat) : 1000 ≤ gid f p := by unfold gid; omega
theorem gid_ne {f f' p p' : Nat} (h : f ≠ f') (hf : f < 32) (hf' : f' < 32) : gid f p ≠ gid f' p' := by unfold gid; omega
theorem gid_inj {f p p' : Nat} (h : gid f p = gid f p') : p = p' := by unfold gid at h; omega
theorem rowIs_ok {row : Int → List SC} {idx : Int} {l : List SC} (h : row idx = l) : rowIs row idx l = true := @decide_eq_true _ (Classical.propDecidable _) h
theorem GM.step {P : Program} {N : Nat} {cx : Cx} {h : Hn} {x : Code} (hx : CodeOK P N x (sx cx N h x)) {va : List (Nat × SV)} {nx j : Nat} {ts : List Nat} {k : Option XK} {vs : List SV} {ob : List Bool} (hrun : runV cx N h x va [] nx j ts [] = some (k, vs, [], ob)) (hob : AllT ob)
    {E : EM} {sg : Nat → Option Seg} {a : Act} {w w0 : World} {T0 : Nat → Nat → Prop} (gm : GM w0 T0 E sg w) (l : List (Nat × Nat)) (hl : ∀ p ∈ l, p.1 < nx ∧ p.1 < 900 ∧ 900 ≤ p.2)
    (hs : ∀ p ∈ va, RelV (alE E l) p.2 (a.tmps.getD p.1 undef)) (hsz : a.tmps.size = N) (hd : a.defers = []) :
    x.wp P (fun e a' w' => e = exitOf k ∧ a'.tmps.size = N ∧ a'.defers = [] ∧ GM w0 T0 E sg w' ∧ ∃ E', (∀ i, i < nx ∨ 900 ≤ i → E' i = alE E l i) ∧ Pts E' a' ts vs) a w := by
  refine wp_mono (stepG hx hrun hob gm.mem l hl gm.sn hs hsz hd (fun p hp => by cases hp) (fun p hp => by cases hp)) fun e a' w' hp => ?_
  obtain ⟨h1, h2, h3, E', sg', h4, h5, h6, _, h7⟩ := hp
  have h8 := h7 [] [] ⟨fun p hp => (by cases hp), fun p hp => (by cases hp), fun p hp => (by cases hp), fun p hp => (by cases hp), by rw [gm.nil]; exact Ext.refl E⟩
  rw [gm.nil] at h8
  exact ⟨h1, h2, h3, ⟨h8, gm.sn, gm.en⟩, E', h5, h6⟩
theorem sl_in {E : EM} {l : List (Nat × Nat)} {i g o es : Nat} {len : SI} {f : Bool} {v : Value} (h : RelC E (.sl g o es len f) v) (hi : i < 900) (hj : i ≠ 0) (hl : lkN l i = some g) : RelC (alE E l) (.sl i o es len f) v :=
  sl_as h (fun x hx => by unfold alE; rw [if_pos hi, hl]; exact hx) hj _ id
theorem sl_out {E E' : EM} {l : List (Nat × Nat)} {i g o es : Nat} {len : SI} {f : Bool} {v : Value} (h : RelC E' (.sl i o es len f) v) (he : E' i = alE E l i) (hi : i < 900) (hj : g ≠ 0) (hl : lkN l i = some g) : RelC E (.sl g o es len f) v :=
  sl_as h (fun x hx => by rw [he] at hx; unfold alE at hx; rw [if_pos hi, hl] at hx; exact hx) hj _ id
/-- The headers told otherwise. -/
theorem GM.hdrs {w0 w : World} {T0 : Nat → Nat → Prop} {E : EM} {sg : Nat → Option Seg} {h f : Nat} {m m' n : Int} {hd hd' : Int → List SC} {L : Nat → Int} {R : Nat → Int → List SC} (gm : GM w0 T0 E (ovl sg h f m n hd L R) w) (hm : m' = m)
    (hh : ∀ (j : Int) c v, 0 ≤ j → j < n → RelC E ((hd j).getD c .any) v → RelC E ((hd' j).getD c .any) v) : GM w0 T0 E (ovl sg h f m' n hd' L R) w := by
  subst hm
  refine ⟨gm.mem.map id (fun j g2 hg => ?_) (fun i j g k _ _ hij _ => hij), fun j g hg => ?_, gm.en⟩
  · show ∃ g, ovl sg h f m' n hd L R j = some g ∧ E j = E j ∧ Wk E E g g2
    unfold ovl at hg
    unfold ovl
    split at hg
    · rename_i e
      cases hg
      exact ⟨_, by rw [if_pos e], rfl, Wk.rows id id (Int.le_refl _) hh⟩
    · rename_i e
      rw [if_neg e]
      exact ⟨_, hg, rfl, Wk.ext (Ext.refl E) _⟩
  · have : ∃ g', ovl sg h f m' n hd L R j = some g' := by
      unfold ovl at hg ⊢
      split at hg
      · rename_i e; exact ⟨_, if_pos e⟩
      · rename_i e; rw [if_neg e]; exact ⟨_, hg⟩
    obtain ⟨g', hg'⟩ := this
    exact gm.sn j g' hg'
theorem all0 {α : Type} {Q : α → Prop} : ∀ p ∈ ([] : List α), Q p := fun p h => by cases h
theorem allC {α : Type} {Q : α → Prop} {x : α} {l : List α} (h : Q x) (hl : ∀ p ∈ l, Q p) : ∀ p ∈ x :: l, Q p := fun p hp => by
  rcases List.mem_cons.1 hp with rfl | hp
  · exact h
  · exact hl p hp
/-- A known length, told of as one that is not. -/
theorem sl_ro {E : EM} {id off es : Nat} {len : SI} {f : Bool} {v : Value} (h : RelC E (.sl id off es len f) v) : RelC E (.sl id off es (.s len.val) false) v := by
  obtain ⟨base, n, cap, h1, h2, h3, h4, h5⟩ := h
  exact ⟨base, n, cap, h1, h2, h3, h4, fun a ha => let ⟨g, b, o, z, e, r, _⟩ := h5 a ha; ⟨g, b, o, z, e, r, fun h => by cases h⟩⟩
/-- A header's view in a piece: the row of the number 'i' stands under the id 'id'. -/
def hvw (i : Nat) (id : Nat) (m : Int) (j : Int) : List SC := if j = (i : Int) then hd1 id m else [.any]
theorem Wk.hvw {E : EM} {rw o : Bool} {n : Int} {f : Nat} {L : Nat → Int} {l : List (Nat × Nat)} {i id : Nat} (hid : id < 900) (h0 : id ≠ 0) (hl : lkN l id = some (gid f i)) : Wk E (alE E l) ⟨rw, o, .rows 1 n (hdr f L)⟩ ⟨false, false, .rows 1 n (Proofs.Ytaoeigofmfpamaa.hvw i id (L i))⟩ :=
  Wk.rows (fun h => by cases h) (fun h => by cases h) (Int.le_refl _) fun j c v k0 k1 hv => by
    unfold Proofs.Ytaoeigofmfpamaa.hvw
    split
    · rename_i hj
      subst hj
      exact one_row (fun v hv => sl_in hv hid h0 hl) hv
    · exact one_any hv
theorem idx_ok {i : Nat} {n : Int} (h : (i : Int) < n) : decide (0 ≤ (i : Int) ∧ (i : Int) < n) = true := by rw [decide_eq_true_eq]; omega
def sumL (L : Nat → Int) : Nat → Int
  | 0 => 0
  | i + 1 => sumL L i + L i
theorem sumL_le {L : Nat → Int} {k : Nat} (h : ∀ p, p < k → 0 ≤ L p) : ∀ i, i ≤ k → 0 ≤ sumL L i ∧ ∀ p, p < i → L p ≤ sumL L i := by
  intro i
  induction i with
  | zero => intro _; exact ⟨Int.le_refl _, fun p hp => by omega⟩
  | succ i ih =>
    intro hi
    obtain ⟨h1, h2⟩ := ih (by omega)
    have h3 := h i (by omega)
    simp only [sumL]
    refine ⟨by omega, fun p hp => ?_⟩
    by_cases e : p = i
    · subst e; omega
    · have := h2 p (by omega); omega
theorem sumL_mono {L : Nat → Int} {k : Nat} (h : ∀ p, p < k → 0 ≤ L p) : ∀ j i, i ≤ j → j ≤ k → sumL L i ≤ sumL L j := by
  intro j
  induction j with
  | zero => intro i hi _; have : i = 0 := by omega
            subst this; exact Int.le_refl _
  | succ j ih =>
    intro i hi hj
    by_cases e : i = j + 1
    · subst e; exact Int.le_refl _
    · have h1 := ih i (by omega) (by omega)
      have h2 := h j (by omega)
      simp only [sumL]; omega
theorem wrap_wd {x : Int} (h0 : -9223372036854775808 ≤ x) (h1 : x < 9223372036854775808) : IntKind.i64.wrap x = x := IntWalk.i64_in x (by omega)
/-! ### slots of the whole -/
def renC (l : List (Nat × Nat)) : SC → SC
  | .sl i o es len f => match i with
    | 0 => .sl 0 o es len f
    | i + 1 => match lkN l (i + 1) with
      | some g => .sl g o es len f
      | none => .any
  | .bool b => .bool b
  | .int k n => .int k n
  | .flt k x => .flt k x
  | _ => .any
def renV (l : List (Nat × Nat)) : SV → SV
  | .c x => .c (renC l x)
  | _ => .any
def covC (l : List (Nat × Nat)) : SC → Bool
  | .sl i _ _ _ _ => match i with
    | 0 => true
    | i + 1 => (lkN l (i + 1)).isSome
  | .bool _ => true
  | .int _ _ => true
  | .flt _ _ => true
  | _ => false
def covA (l : List (Nat × Nat)) : List (Nat × SV) → Bool
  | [] => true
  | (_, .c x) :: r => covC l x && covA l r
  | _ => false
def Sts (E : EM) (a : Act) : List (Nat × SV) → Prop
  | [] => True
  | (t, v) :: r => RelV E v (a.tmps.getD t undef) ∧ Sts E a r
def renA (l : List (Nat × Nat)) : List (Nat × SV) → List (Nat × SV)
  | [] => []
  | (t, v) :: r => (t, renV l v) :: renA l r
def zipR (l : List (Nat × Nat)) : List Nat → List SV → List (Nat × SV)
  | t :: ts, v :: vs => (t, renV l v) :: zipR l ts vs
  | _, _ => []
theorem Sts.mono {E E' : EM} (h : Ext E E') {a : Act} : ∀ {l : List (Nat × SV)}, Sts E a l → Sts E' a l
  | [], _ => trivial
  | _ :: _, ⟨h1, h2⟩ => ⟨h1.mono h, h2.mono h⟩
theorem sl0_as {E E' : EM} {o es : Nat} {len : SI} {f : Bool} {v : Value} (h : RelC E (.sl 0 o es len f) v) : RelC E' (.sl 0 o es len f) v := by
  obtain ⟨base, n, cap, h1, h2, h3, h4, h5⟩ := h
  exact ⟨base, n, cap, h1, h2, h3, h4, fun a ha => absurd rfl (h5 a ha).1⟩
theorem Sts.in_ {E : EM} {l : List (Nat × Nat)} (hl : ∀ p ∈ l, p.1 < 900) {a : Act} : ∀ {va : List (Nat × SV)}, covA l va = true → Sts E a (renA l va) → ∀ p ∈ va, RelV (alE E l) p.2 (a.tmps.getD p.1 undef)
  | [], _, _, p, hp => by cases hp
  | (t, v) :: r, hc, hs, p, hp => by
    cases v with
    | c x =>
      simp only [covA, Bool.and_eq_true] at hc
      rcases List.mem_cons.1 hp with rfl | hp
      · have h1 : RelC E (renC l x) (a.tmps.getD t undef) := hs.1
        show RelC (alE E l) x (a.tmps.getD t undef)
        cases x with
        | sl i o es len f =>
          cases i with
          | zero => exact sl0_as h1
          | succ i =>
            have h2 := hc.1
            simp only [covC] at h2
            cases hk : lkN l (i + 1) with
            | none => rw [hk] at h2; cases h2
            | some g =>
              simp only [renC, hk] at h1
              exact sl_in h1 (hl _ (lkN_mem hk)) (by omega) hk
        | bool b => exact h1
        | int k n => exact h1
        | flt k x => exact h1
        | _ => cases hc.1
      · exact Sts.in_ hl hc.2 hs.2 p hp
    | _ => cases hc
theorem Sts.out_ {E E' : EM} {l : List (Nat × Nat)} {nx : Nat} (hl : ∀ p ∈ l, p.1 < nx ∧ p.1 < 900 ∧ 900 ≤ p.2) (he : ∀ i, i < nx ∨ 900 ≤ i → E' i = alE E l i) {a : Act} : ∀ {ts : List Nat} {vs : List SV}, Pts E' a ts vs → Sts E a (zipR l ts vs)
  | [], _, _ => trivial
  | _ :: _, [], _ => trivial
  | t :: ts, v :: vs, ⟨h1, h2⟩ => by
    refine ⟨?_, Sts.out_ hl he h2⟩
    cases v with
    | c x =>
      have h1 : RelC E' x (a.tmps.getD t undef) := h1
      show RelC E (renC l x) (a.tmps.getD t undef)
      cases x with
      | sl i o es len f =>
        cases i with
        | zero => exact sl0_as h1
        | succ i =>
          cases hk : lkN l (i + 1) with
          | none => simp only [renC, hk]; exact h1.one
          | some g =>
            simp only [renC, hk]
            have := hl _ (lkN_mem hk)
            simp only at this
            exact sl_out h1 (he _ (.inl this.1)) this.2.1 (by omega) hk
      | bool b => exact h1
      | int k n => exact h1
      | flt k x => exact h1
      | _ => exact h1.one
    | _ => trivial
/-- A piece that writes nothing. -/
theorem GM.run {P : Program} {N : Nat} {cx : Cx} {h : Hn} {x : Code} (hx : CodeOK P N x (sx cx N h x)) {va : List (Nat × SV)} {rd : List (Nat × Seg)} {nx j : Nat} {ts : List Nat} {k : Option XK} {vs : List SV} {ob : List Bool} (hrun : runV cx N h x va rd nx j ts [] = some (k, vs, [], ob)) (hob : AllT ob)
    {E : EM} {sg : Nat → Option Seg} {a : Act} {w w0 : World} {T0 : Nat → Nat → Prop} (gm : GM w0 T0 E sg w) (l : List (Nat × Nat)) (hl : ∀ p ∈ l, p.1 < nx ∧ p.1 < 900 ∧ 900 ≤ p.2) (hc : covA l va = true)
    (hs : Sts E a (renA l va)) (hsz : a.tmps.size = N) (hd : a.defers = []) (hrd : ∀ p ∈ rd, ∃ g s0, lkN l p.1 = some g ∧ sg g = some s0 ∧ Wk E (alE E l) s0 p.2) (hro : ∀ p ∈ rd, p.2.rw = false) :
    x.wp P (fun e a' w' => e = exitOf k ∧ a'.tmps.size = N ∧ a'.defers = [] ∧ GM w0 T0 E sg w' ∧ Sts E a' (zipR l ts vs)) a w := by
  refine wp_mono (stepG hx hrun hob gm.mem l hl gm.sn (Sts.in_ (fun p hp => (hl p hp).2.1) hc hs) hsz hd hrd (fun p hp q hq _ hr => by rw [hro p hp, hro q hq] at hr; rcases hr with hr | hr <;> cases hr)) fun e a' w' hp => ?_
  obtain ⟨h1, h2, h3, E', sg', h4, h5, h6, _, h7⟩ := hp
  have h8 := h7 [] [] ⟨fun p hp => (by cases hp), fun p hp => (by cases hp), fun p hp => (by cases hp), fun p hp hr => (by rw [hro p hp] at hr; cases hr), by rw [gm.nil]; exact Ext.refl E⟩
  rw [gm.nil] at h8
  exact ⟨h1, h2, h3, ⟨h8, gm.sn, gm.en⟩, Sts.out_ hl h5 h6⟩
/-- A piece that writes one segment, which was there. -/
theorem GM.wr1' {P : Program} {N : Nat} {cx : Cx} {h : Hn} {x : Code} (hx : CodeOK P N x (sx cx N h x)) {va : List (Nat × SV)} {rd : List (Nat × Seg)} {nx j i0 g0 : Nat} {s' sr g2 : Seg} {ts : List Nat} {k : Option XK} {vs : List SV} {ob : List Bool} (hrun : runV cx N h x va rd nx j ts [i0] = some (k, vs, [some s'], ob)) (hob : AllT ob)
    {E : EM} {sg : Nat → Option Seg} {a : Act} {w w0 : World} {T0 : Nat → Nat → Prop} (gm : GM w0 T0 E sg w) (l : List (Nat × Nat)) (hl : ∀ p ∈ l, p.1 < nx ∧ p.1 < 900 ∧ 900 ≤ p.2) (hc : covA l va = true)
    (hs : Sts E a (renA l va)) (hsz : a.tmps.size = N) (hd : a.defers = []) (hrd : ∀ p ∈ rd, ∃ g s0, lkN l p.1 = some g ∧ sg g = some s0 ∧ Wk E (alE E l) s0 p.2)
    (hinj : ∀ p ∈ rd, ∀ q ∈ rd, p.1 ≠ q.1 → (p.2.rw = true ∨ q.2.rw = true) → lkN l p.1 ≠ lkN l q.1)
    (hl0 : lkN l i0 = some g0) (hi0 : findS i0 rd = some sr) (hrw : sr.rw = true) (honly : ∀ p ∈ rd, p.2.rw = true → p.1 = i0) (hw : ∀ E' : EM, (∀ j, 900 ≤ j → E' j = E j) → (∀ i g, lkN l i = some g → E' i = E g) → Wk E' E s' g2) :
    x.wp P (fun e a' w' => e = exitOf k ∧ a'.tmps.size = N ∧ a'.defers = [] ∧ Sts E a' (zipR l ts vs) ∧ GM w0 T0 E (upS sg [(g0, g2)]) w') a w := by
  refine wp_mono (stepG hx hrun hob gm.mem l hl gm.sn (Sts.in_ (fun p hp => (hl p hp).2.1) hc hs) hsz hd hrd hinj) fun e a' w' hp => ?_
  obtain ⟨h1, h2, h3, E', sg', h4, h5, h6, ⟨q, _⟩, h7⟩ := hp
  have hli := hl _ (lkN_mem hl0)
  simp only at hli
  have e0 : E' i0 = E g0 := (h5 i0 (.inl hli.1)).trans (by unfold alE; rw [if_pos hli.2.1, hl0])
  have hup : upE E E' [(g0, i0)] = E := by
    funext c
    unfold upE
    by_cases e : c = g0
    · subst e; simp only [lkN, if_true]; exact e0
    · simp only [lkN, if_neg e]
      split
      · rename_i hj; exact (gm.en c hj).symm
      · rfl
  have hbig : ∀ c, 900 ≤ c → E' c = E c := fun c hc => (h5 c (.inr hc)).trans (by unfold alE; rw [if_neg (by omega)])
  have hal : ∀ i g, lkN l i = some g → E' i = E g := fun i g hi => by
    have h9 := hl _ (lkN_mem hi)
    simp only at h9
    exact (h5 i (.inl h9.1)).trans (by unfold alE; rw [if_pos h9.2.1, hi])
  have h8 := h7 [(g0, i0)] [(g0, g2)] ⟨allC ⟨i0, s', by simp [lkN], q, by rw [hup]; exact hw E' hbig hal, .inl ⟨sr, hi0, fun _ => hrw, hl0⟩⟩ all0, allC (by simp [findS_cons]) all0, allC (allC (fun _ => rfl) all0) all0,
    fun p hp hr => ⟨g0, by rw [honly p hp hr]; exact hl0, by simp [lkN]⟩, by rw [hup]; exact Ext.refl E⟩
  rw [hup] at h8
  refine ⟨h1, h2, h3, Sts.out_ hl h5 h6, h8, fun c g hc => ?_, gm.en⟩
  unfold upS at hc
  rw [findS_cons] at hc
  by_cases e : c = g0
  · rw [e]; exact hli.2.2
  · rw [if_neg e, findS_nil] at hc; exact gm.sn c g hc
/-- A piece that writes one segment, which was there. -/
theorem GM.wr1 {P : Program} {N : Nat} {cx : Cx} {h : Hn} {x : Code} (hx : CodeOK P N x (sx cx N h x)) {va : List (Nat × SV)} {rd : List (Nat × Seg)} {nx j i0 g0 : Nat} {s' sr g2 : Seg} {ts : List Nat} {k : Option XK} {vs : List SV} {ob : List Bool} (hrun : runV cx N h x va rd nx j ts [i0] = some (k, vs, [some s'], ob)) (hob : AllT ob)
    {E : EM} {sg : Nat → Option Seg} {a : Act} {w w0 : World} {T0 : Nat → Nat → Prop} (gm : GM w0 T0 E sg w) (l : List (Nat × Nat)) (hl : ∀ p ∈ l, p.1 < nx ∧ p.1 < 900 ∧ 900 ≤ p.2) (hc : covA l va = true)
    (hs : Sts E a (renA l va)) (hsz : a.tmps.size = N) (hd : a.defers = []) (hrd : ∀ p ∈ rd, ∃ g s0, lkN l p.1 = some g ∧ sg g = some s0 ∧ Wk E (alE E l) s0 p.2)
    (hinj : ∀ p ∈ rd, ∀ q ∈ rd, p.1 ≠ q.1 → (p.2.rw = true ∨ q.2.rw = true) → lkN l p.1 ≠ lkN l q.1)
    (hl0 : lkN l i0 = some g0) (hi0 : findS i0 rd = some sr) (hrw : sr.rw = true) (honly : ∀ p ∈ rd, p.2.rw = true → p.1 = i0) (hw : ∀ E', (∀ j, 900 ≤ j → E' j = E j) → Wk E' E s' g2) :
    x.wp P (fun e a' w' => e = exitOf k ∧ a'.tmps.size = N ∧ a'.defers = [] ∧ Sts E a' (zipR l ts vs) ∧ GM w0 T0 E (upS sg [(g0, g2)]) w') a w :=
  GM.wr1' hx hrun hob gm l hl hc hs hsz hd hrd hinj hl0 hi0 hrw honly fun E' he _ => hw E' he
theorem GM.sub {w w0 : World} {T0 : Nat → Nat → Prop} {E : EM} {sg sg' : Nat → Option Seg} (gm : GM w0 T0 E sg w) (h : ∀ j g, sg' j = some g → sg j = some g) : GM w0 T0 E sg' w := ⟨gm.mem.sub h, fun j g hg => gm.sn j g (h j g hg), gm.en⟩
/-- The same memory, each segment told otherwise. -/
theorem GM.tell {w w0 : World} {T0 : Nat → Nat → Prop} {E : EM} {sg sg' : Nat → Option Seg} (gm : GM w0 T0 E sg w) (h : ∀ j g, sg' j = some g → ∃ g0, sg j = some g0 ∧ Wk E E g0 g) : GM w0 T0 E sg' w :=
  ⟨gm.mem.map id (fun j g hg => let ⟨g0, h1, h2⟩ := h j g hg; ⟨g0, h1, rfl, h2⟩) (fun _ _ _ _ _ _ hij _ => hij), fun j g hg => let ⟨g0, h1, _⟩ := h j g hg; gm.sn j g0 h1, gm.en⟩
def swp (u : List (Nat × Nat)) : List (Nat × Nat) := u.map fun p => (p.2, p.1)
theorem lkN_app {l m : List (Nat × Nat)} {i : Nat} : lkN (l ++ m) i = match lkN l i with
    | some g => some g
    | none => lkN m i := by
  induction l with
  | nil => rfl
  | cons p l ih =>
    obtain ⟨j, k⟩ := p
    show (if i = j then some k else lkN (l ++ m) i) = match (if i = j then some k else lkN l i) with
      | some g => some g
      | none => lkN m i
    by_cases e : i = j
    · rw [if_pos e, if_pos e]
    · rw [if_neg e, if_neg e]; exact ih
theorem lkN_some {l : List (Nat × Nat)} {i k : Nat} (h : (i, k) ∈ l) : (lkN l i).isSome = true := by
  induction l with
  | nil => cases h
  | cons p l ih =>
    obtain ⟨j, m⟩ := p
    unfold lkN
    by_cases e : i = j
    · rw [if_pos e]; rfl
    · rw [if_neg e]
      rcases List.mem_cons.1 h with h | h
      · cases h; exact absurd rfl e
      · exact ih h
/-- A piece that makes new segments and may drop what it was handed to write. -/
theorem GM.newL {P : Program} {N : Nat} {cx : Cx} {h : Hn} {x : Code} (hx : CodeOK P N x (sx cx N h x)) {va : List (Nat × SV)} {rd : List (Nat × Seg)} {nx j : Nat} {ts is : List Nat} {k : Option XK} {vs : List SV} {ss : List (Option Seg)} {ob : List Bool} (hrun : runV cx N h x va rd nx j ts is = some (k, vs, ss, ob)) (hob : AllT ob)
    {E : EM} {sg : Nat → Option Seg} {a : Act} {w w0 : World} {T0 : Nat → Nat → Prop} (gm : GM w0 T0 E sg w) (l : List (Nat × Nat)) (hl : ∀ p ∈ l, p.1 < nx ∧ p.1 < 900 ∧ 900 ≤ p.2) (hc : covA l va = true)
    (hs : Sts E a (renA l va)) (hsz : a.tmps.size = N) (hd : a.defers = []) (hrd : ∀ p ∈ rd, ∃ g s0, lkN l p.1 = some g ∧ sg g = some s0 ∧ Wk E (alE E l) s0 p.2)
    (hinj : ∀ p ∈ rd, ∀ q ∈ rd, p.1 ≠ q.1 → (p.2.rw = true ∨ q.2.rw = true) → lkN l p.1 ≠ lkN l q.1)
    (u : List (Nat × Nat)) (us : List (Nat × Seg)) (dr : List Nat)
    (hu1 : ∀ p ∈ u, 900 ≤ p.1 ∧ E p.1 = none ∧ nx ≤ p.2 ∧ p.2 < 900 ∧ (findS p.1 us).isSome = true)
    (huinj : ∀ p ∈ u, ∀ q ∈ u, p.2 = q.2 → p.1 = q.1) (hukey : ∀ p ∈ u, lkN u p.1 = some p.2)
    (hsrc : ∀ sg', Psg sg' is ss → ∀ p ∈ us, ∃ i s', lkN u p.1 = some i ∧ sg' i = some s' ∧ s'.rw = true ∧ ∀ E' E2 : EM, (∀ j, 900 ≤ j → E' j = E j) → (∀ j, 900 ≤ j → lkN u j = none → E2 j = E j) → (∀ j i, lkN u j = some i → E2 j = E' i) → Wk E' E2 s' p.2)
    (hdr : ∀ p ∈ rd, p.2.rw = true → ∃ g, lkN l p.1 = some g ∧ g ∈ dr) :
    x.wp P (fun e a' w' => e = exitOf k ∧ a'.tmps.size = N ∧ a'.defers = [] ∧ ∃ E2, Ext E E2 ∧ (∀ j, lkN u j = none → E2 j = E j) ∧ GM w0 T0 E2 (rmS (upS sg us) dr) w' ∧ Sts E2 a' (zipR (swp u ++ l) ts vs)) a w := by
  have hlu : ∀ i g, lkN l i = some g → lkN (swp u) i = none := fun i g hi => by
    have h1 := hl _ (lkN_mem hi)
    simp only at h1
    cases hk : lkN (swp u) i with
    | none => rfl
    | some y =>
      have h2 := lkN_mem hk
      unfold swp at h2
      rw [List.mem_map] at h2
      obtain ⟨p, hp, e⟩ := h2
      have h3 := hu1 p hp
      cases e
      omega
  refine wp_mono (stepD hx hrun hob gm.mem l hl gm.sn (Sts.in_ (fun p hp => (hl p hp).2.1) hc hs) hsz hd hrd hinj) fun e a' w' hp => ?_
  obtain ⟨h1, h2, h3, E', sg', h4, h5, h6, hP, h7⟩ := hp
  have hbig : ∀ c, 900 ≤ c → E' c = E c := fun c hc => (h5 c (.inr hc)).trans (by unfold alE; rw [if_neg (by omega)])
  have hn : ∀ c, lkN u c = none → upE E E' u c = E c := fun c hc => by
    unfold upE; rw [hc]
    simp only
    split
    · rename_i hj; exact (gm.en c hj).symm
    · rfl
  have hs' : ∀ c i, lkN u c = some i → upE E E' u c = E' i := fun c i hc => by unfold upE; rw [hc]
  have hext : Ext E (upE E E' u) := fun c y hc => by
    cases hk : lkN u c with
    | none => rw [hn c hk]; exact hc
    | some i => have := hu1 _ (lkN_mem hk); simp only at this; rw [this.2.1] at hc; cases hc
  have hm := h7 u us dr ⟨fun p hp => ?_, fun p hp => (hu1 p hp).2.2.2.2, huinj, fun p hp hr => let ⟨g, k1, k2⟩ := hdr p hp hr; ⟨g, k1, .inr k2⟩, hext⟩
  · refine ⟨h1, h2, h3, upE E E' u, hext, hn, ⟨hm, fun c g hg => ?_, fun c hc => ?_⟩, ?_⟩
    · have := (rmS_some hg).2
      unfold upS at this
      split at this
      · rename_i s hs
        obtain ⟨i, s', k1, _⟩ := hsrc sg' hP (c, s) (findS_in hs)
        exact (hu1 _ (lkN_mem k1)).1
      · exact gm.sn c g this
    · cases hk : lkN u c with
      | none => rw [hn c hk]; exact gm.en c hc
      | some i => have := hu1 _ (lkN_mem hk); simp only at this; omega
    · have key : ∀ (ts : List Nat) (vs : List SV), Pts E' a' ts vs → Sts (upE E E' u) a' (zipR (swp u ++ l) ts vs) := by
        intro ts
        induction ts with
        | nil => intro _ _; trivial
        | cons t ts ih =>
          intro vs hv
          cases vs with
          | nil => trivial
          | cons v vs =>
            refine ⟨?_, ih vs hv.2⟩
            have hv1 := hv.1
            cases v with
            | c x =>
              have hv1 : RelC E' x (a'.tmps.getD t undef) := hv1
              show RelC (upE E E' u) (renC (swp u ++ l) x) (a'.tmps.getD t undef)
              cases x with
              | sl i o es len f =>
                cases i with
                | zero => exact sl0_as hv1
                | succ i =>
                  cases hk : lkN (swp u ++ l) (i + 1) with
                  | none => simp only [renC, hk]; exact hv1.one
                  | some g =>
                    simp only [renC, hk]
                    rw [lkN_app] at hk
                    cases hk2 : lkN (swp u) (i + 1) with
                    | some g' =>
                      rw [hk2] at hk
                      cases hk
                      have h2 := lkN_mem hk2
                      unfold swp at h2
                      rw [List.mem_map] at h2
                      obtain ⟨p, hp, e⟩ := h2
                      have h3 := hu1 p hp
                      have e1 : p.2 = i + 1 := congrArg Prod.fst e
                      have e2 : p.1 = g := congrArg Prod.snd e
                      subst e2
                      have h4 : lkN u p.1 = some (i + 1) := by rw [hukey p hp, e1]
                      exact sl_as hv1 (fun y hy => by rw [hs' _ _ h4]; exact hy) (by omega) _ id
                    | none =>
                      rw [hk2] at hk
                      simp only at hk
                      have h3 := hl _ (lkN_mem hk)
                      simp only at h3
                      refine sl_as hv1 (fun y hy => hext _ _ ?_) (by omega) _ id
                      have := (h5 (i + 1) (.inl h3.1))
                      rw [this] at hy
                      unfold alE at hy
                      rw [if_pos h3.2.1, hk] at hy
                      exact hy
              | bool b => exact hv1
              | int k n => exact hv1
              | flt k x => exact hv1
              | _ => exact hv1.one
            | _ => trivial
      exact key ts vs h6
  · obtain ⟨i, s', k1, k2, k3, k4⟩ := hsrc sg' hP p hp
    have h8 := hu1 _ (lkN_mem k1)
    simp only at h8
    refine ⟨i, s', k1, k2, k4 E' _ hbig (fun c _ hc => hn c hc) hs', .inr ⟨?_, h8.2.2.2.1, k3⟩⟩
    cases hk : lkN l i with
    | none => rfl
    | some g => have := hl _ (lkN_mem hk); simp only at this; omega
end
end Go.Proofs.Ytaoeigofmfpamaa
end

/- Slices of slices of floats: the pieces of 'toFloat32SS'. Nothing is assumed. -/
section
namespace Go.Proofs.Ytaoeigofmfpamaa
open Go
noncomputable section
noncomputable def cL : Code → Code
  | .seq a _ => a
  | c => c
noncomputable def cR : Code → Code
  | .seq _ b => b
  | c => c
noncomputable def cB : Code → Code
  | .block _ b => b
  | .loop b => b
  | .scope b => b
  | c => c
noncomputable def bodyC (fn : Func) : Code := match fn.body with
  | some c => c
  | none => .skip
/-- One test is known. -/
noncomputable def on1 (t : Nat) (b : Bool) (s : Nat) : Option Bool := bif Nat.beq s t then some b else none
noncomputable def on2 (t : Nat) (b : Bool) (t' : Nat) (b' : Bool) (s : Nat) : Option Bool := bif Nat.beq s t then some b else bif Nat.beq s t' then some b' else none
noncomputable def off (_ : Nat) : Option Bool := none
noncomputable def LTo (O : FOps) : List (Nat × CS) := [(22, SlFloat32.toC O)]
noncomputable def cxA (O : FOps) (L : List (Nat × CS)) : Cx := ⟨Try.prog, O, orcN Try.prog O L 1⟩
noncomputable def hTo (O : FOps) (i : Nat) (m : Int) : List (Nat × CS) := (1000018, hntS (hd1 i m)) :: (1000021, hntS []) :: LTo O
noncomputable abbrev toSS : Func := Try.f30
noncomputable abbrev toX : Code := bodyOf toSS 3
set_option maxRecDepth 100000 in
theorem to_shape : toSS.body = some (.seq (cL (bodyC toSS)) (.seq (cL (cR (bodyC toSS))) (.seq (.seq (cL (cL (cR (cR (bodyC toSS))))) (.block 0 (.loop toX))) (cR (cR (cR (bodyC toSS))))))) := by kernel_rfl
set_option maxRecDepth 100000 in
theorem to_0 (O : FOps) (n : Int) : runV (cxA O []) toSS.ntmps ⟨off, fun _ => none⟩ (cL (bodyC toSS)) [(0, .c (.sl 2 0 1 (.s n) false))] [] 10 0 [0] [] =
    some (none, [.c (.sl 2 0 1 (.s n) false)], [], []) := by kernel_rfl
set_option maxRecDepth 100000 in
theorem to_1 (O : FOps) (n : Int) : runV (cxA O []) toSS.ntmps ⟨off, fun _ => none⟩ (cL (cR (bodyC toSS))) [(0, .c (.sl 2 0 1 (.s n) false))] [] 10 0 [0, 3] [10] =
    some (none, [.c (.sl 2 0 1 (.s n) false), .c (.sl 10 0 1 (.s n) true)], [some ⟨true, true, .rows 1 n (fun _ => [.sl 0 0 0 (.c 0) false])⟩], [decide (n = n ∧ 0 ≤ n ∧ n ≤ 100000000)]) := by kernel_rfl
set_option maxRecDepth 100000 in
theorem to_2 (O : FOps) (n : Int) : runV (cxA O []) toSS.ntmps ⟨off, fun _ => none⟩ (cL (cL (cR (cR (bodyC toSS))))) [(0, .c (.sl 2 0 1 (.s n) false)), (3, .c (.sl 3 0 1 (.s n) true))] [] 10 0 [0, 3, 4] [] =
    some (none, [.c (.sl 2 0 1 (.s n) false), .c (.sl 3 0 1 (.s n) true), .c (.int .i64 (.c 0))], [], []) := by kernel_rfl
set_option maxRecDepth 100000 in
theorem to_rd (O : FOps) (n i m : Int) (hdr row out : Int → List SC) : runV (cxA O (hTo O 21 m)) toSS.ntmps ⟨on1 11 true, fun _ => none⟩ toX [(0, .c (.sl 2 0 1 (.s n) false)), (3, .c (.sl 3 0 1 (.s n) true)), (4, .c (.int .i64 (.s i)))]
    [(2, ⟨false, false, .rows 1 n hdr⟩), (3, ⟨true, true, .rows 1 n out⟩), (21, ⟨false, false, .rows 1 m row⟩)] 22 0 [0, 3, 4] [3, 22] =
    some (none, [.c (.sl 2 0 1 (.s n) false), .c (.sl 3 0 1 (.s n) true), .c (.int .i64 (.s (IntKind.i64.wrap (i + 1))))],
      [some ⟨true, true, .rows 1 n (fun j => bif decide (j = i) then [.sl 22 0 1 (.s m) true] else out j)⟩, some ⟨true, true, .rows 1 m (SlFloat32.cpR m row)⟩],
      [decide (i < n), decide (0 ≤ i ∧ i < n), decide (0 ≤ i ∧ i < n), rowIs hdr i (hd1 21 m), flatR row, flatR (SlFloat32.cpR m row), SlFloat32.okN m m row, decide (0 ≤ i ∧ i < n), decide (0 ≤ i ∧ i < n)]) := by kernel_rfl
set_option maxRecDepth 100000 in
theorem to_end (O : FOps) (n i : Int) : runV (cxA O []) toSS.ntmps ⟨on1 11 false, fun _ => none⟩ toX [(0, .c (.sl 2 0 1 (.s n) false)), (3, .c (.sl 3 0 1 (.s n) true)), (4, .c (.int .i64 (.s i)))]
    [] 10 0 [3] [] = some (some (.exit 0), [.c (.sl 3 0 1 (.s n) true)], [], [!decide (i < n), true]) := by kernel_rfl
set_option maxRecDepth 100000 in
theorem to_3 (O : FOps) (n : Int) : runV (cxA O []) toSS.ntmps ⟨off, fun _ => none⟩ (cR (cR (cR (bodyC toSS)))) [(3, .c (.sl 3 0 1 (.s n) true))] [] 10 0 [2] [] =
    some (some .ret, [.c (.sl 3 0 1 (.s n) true)], [], [true]) := by kernel_rfl
theorem to_res : toSS.results.toList = [.tmp 2] := by kernel_rfl
end
end Go.Proofs.Ytaoeigofmfpamaa
end

/- 'toFloat32SS': a copy of a slice of slices of floats. Nothing is assumed. -/
section
namespace Go.Proofs.Ytaoeigofmfpamaa
open Go
noncomputable section
theorem wrapN {i : Nat} (h : (i : Int) ≤ 100000000) : IntKind.i64.wrap ((i : Int) + 1) = ((i + 1 : Nat) : Int) := by
  rw [wrap_succ (by omega) h]; omega
/-- The headers, when the first 'i' rows are made. -/
def rowsO (f : Nat) (L : Nat → Int) (i : Nat) (j : Int) : List SC := if j < (i : Int) then hdr f L j else [.sl 0 0 0 (.c 0) false]
abbrev cpR := SlFloat32.cpR
theorem cpR_shape (n : Int) (row : Int → List SC) : Shape SlFloat32.ts (cpR n row) := SlFloat32.shape_row _ _
abbrev toN2 : Nat := toSS.ntmps
structure ToI (w0 : World) (T0 : Nat → Nat → Prop) (E0 : EM) (sg : Nat → Option Seg) (hA : Nat) (n : Int) (L : Nat → Int) (R : Nat → Int → List SC) (h f' : Nat) (i : Nat) (E : EM) (a : Act) (w : World) : Prop where
  sz : a.tmps.size = toSS.ntmps
  dfr : a.defers = []
  gm : GM w0 T0 E (ovl sg h f' i n (rowsO f' L i) L (fun p => cpR (L p) (R p))) w
  ext : Ext E0 E
  old : ∀ j, E j ≠ none → E0 j ≠ none ∨ j = h ∨ ∃ p, p < i ∧ j = gid f' p
  s0 : RelV E (.c (.sl hA 0 1 (.s n) false)) (a.tmps.getD 0 undef)
  s3 : RelV E (.c (.sl h 0 1 (.s n) true)) (a.tmps.getD 3 undef)
  s4 : RelV E (.c (.int .i64 (.s (i : Int)))) (a.tmps.getD 4 undef)
section
variable {w0 w : World} {T0 : Nat → Nat → Prop} {E0 : EM} {sg : Nat → Option Seg} {hA f : Nat} {n : Int} {L : Nat → Int} {R : Nat → Int → List SC} {rw : Bool} {h f' : Nat}
theorem okTo (i : Nat) (m : Int) : AllOK Try.prog (hTo fops i m) := ⟨hintOK _, hintOK _, SlFloat32.cToC, trivial⟩
theorem to_round (hss : SSof sg rw hA f n L R) (hn : n ≤ 1048576) (hA1 : 900 ≤ hA ∧ hA < 1000) (hf : f < 32) (hf' : f' < 32) (hff : f ≠ f') (hh : 900 ≤ h ∧ h < 1000) (hhA : hA ≠ h) (hfr : ∀ p, E0 (gid f' p) = none)
    {i : Nat} (hi : (i : Int) < n) {E : EM} {a : Act} (hI : ToI w0 T0 E0 sg hA n L R h f' i E a w) :
    toX.wp Try.prog (fun e a' w' => e = .normal ∧ ∃ E', ToI w0 T0 E0 sg hA n L R h f' (i + 1) E' a' w') a w := by
  obtain ⟨⟨o1, hr1⟩, hL0, hL1, hsh⟩ := hss.row i hi
  obtain ⟨o0, hr0⟩ := hss.hd (by omega)
  have hg1 := gid_ge f i
  have hg2 := gid_ge f' i
  have hov0 : ∀ m, ovl sg h f' m n (rowsO f' L i) L (fun p => cpR (L p) (R p)) hA = sg hA := fun m => by
    unfold ovl isF
    rw [if_neg hhA, decide_eq_false (by omega : ¬ 1000 ≤ hA)]; simp
  have hov1 : ∀ m, ovl sg h f' m n (rowsO f' L i) L (fun p => cpR (L p) (R p)) (gid f i) = sg (gid f i) := fun m => by
    unfold ovl
    rw [isF_gid hf, if_neg (by omega), decide_eq_false hff]; simp
  have hov2 : ∀ m, ovl sg h f' m n (rowsO f' L i) L (fun p => cpR (L p) (R p)) h = some ⟨true, true, .rows 1 n (rowsO f' L i)⟩ := fun m => by
    unfold ovl; rw [if_pos rfl]
  have hEn : E (gid f' i) = none := by
    cases hE : E (gid f' i) with
    | none => rfl
    | some x =>
      rcases hI.old _ (by rw [hE]; simp) with h1 | h1 | ⟨p, h1, h2⟩
      · exact absurd (hfr i) h1
      · omega
      · have := gid_inj h2; omega
  have hb : ∀ k : Int, k = (i : Int) → decide (0 ≤ k ∧ k < n) = true := fun k hk => by rw [decide_eq_true_eq]; omega
  refine wp_mono (stepG (body_ok (okTo 21 (L i)) mixed 1 toX (on1 11 true))
    (to_rd fops n i (L i) (fun j => if j = (i : Int) then hd1 21 (L i) else [.any]) (R i) (rowsO f' L i))
    (AllT.cons (decide_eq_true hi) (AllT.cons (hb _ rfl) (AllT.cons (hb _ rfl) (AllT.cons (rowIs_ok (if_pos rfl)) (AllT.cons (SlFloat32.shape_flat hsh) (AllT.cons (SlFloat32.shape_flat (cpR_shape _ _)) (AllT.cons (pB_iff.2 ⟨rfl, hL0, hL1, hsh⟩) (AllT.cons (hb _ rfl) (AllT.cons (hb _ rfl) AllT.nil)))))))))
    hI.gm.mem [(2, hA), (3, h), (21, gid f i)] (by simp; omega) hI.gm.sn ?_ hI.sz hI.dfr ?_ ?_) fun e a' w' hp => ?_
  · intro p hp
    simp only [List.mem_cons, List.not_mem_nil, or_false] at hp
    rcases hp with rfl | rfl | rfl
    · refine sl_as hI.s0 (fun x hx => ?_) (by decide) _ id
      simpa [alE, lkN] using hx
    · exact sl_as hI.s3 (fun x hx => by simpa [alE, lkN] using hx) (by decide) _ id
    · exact hI.s4
  · intro p hp
    simp only [List.mem_cons, List.not_mem_nil, or_false] at hp
    rcases hp with rfl | rfl | rfl
    · refine ⟨hA, _, by simp [lkN], (hov0 _).trans hr0, Wk.rows (fun h => by cases h) (fun h => by cases h) (Int.le_refl _) fun j c v h0 h1 hv => ?_⟩
      split
      · rename_i hj
        subst hj
        refine one_row (fun v hv => sl_as hv (fun x hx => ?_) (by decide) _ id) hv
        simpa [alE, lkN] using hx
      · exact one_any hv
    · refine ⟨h, _, by simp [lkN], hov2 _, Wk.rows id id (Int.le_refl _) fun j c v h0 h1 hv => ?_⟩
      unfold rowsO at hv ⊢
      split
      · rename_i hj
        rw [if_pos hj] at hv
        refine one_row (fun v hv => sl_as hv (fun x hx => ?_) (by have := gid_ge f' j.toNat; omega) _ id) hv
        have := gid_ge f' j.toNat
        unfold alE
        rw [if_neg (by omega)]; exact hx
      · rename_i hj
        rw [if_neg hj] at hv
        exact one_row (fun v hv => nil_as hv) hv
    · exact ⟨gid f i, _, by simp [lkN], (hov1 _).trans hr1, Wk.flat (fun h => by cases h) (fun h => by cases h) (SlFloat32.shape_flat hsh)⟩
  · intro p hp q hq hne hrw
    simp only [List.mem_cons, List.not_mem_nil, or_false] at hp hq
    have e1 : gid f i ≠ h := by omega
    rcases hp with rfl | rfl | rfl <;> rcases hq with rfl | rfl | rfl <;> simp [lkN] at hne hrw ⊢ <;> first | exact hhA | exact Ne.symm hhA | exact e1 | exact Ne.symm e1
  · obtain ⟨rfl, h1, h2, E', sg', h3, h4, h5, h6, h7⟩ := hp
    obtain ⟨p0, p3, p4, _⟩ := h5
    obtain ⟨q3, q22, _⟩ := h6
    have e3 : E' 3 = E h := (h4 3 (.inl (by omega))).trans (by simp [alE, lkN])
    have e2 : E' 2 = E hA := (h4 2 (.inl (by omega))).trans (by simp [alE, lkN])
    have ebig : ∀ j, 900 ≤ j → E' j = E j := fun j hj => (h4 j (.inr hj)).trans (by unfold alE; rw [if_neg (by omega)])
    have hgh : gid f' i ≠ h := by omega
    let u : List (Nat × Nat) := [(h, 3), (gid f' i, 22)]
    have u1 : upE E E' u h = E' 3 := by simp [upE, u, lkN]
    have u2 : upE E E' u (gid f' i) = E' 22 := by simp [upE, u, lkN, hgh]
    have u3 : ∀ j, 900 ≤ j → j ≠ gid f' i → upE E E' u j = E j := fun j hj hne => by
      by_cases e : j = h
      · subst e; rw [u1, e3]
      · simp [upE, u, lkN, e, hne]; omega
    have hext : Ext E (upE E E' u) := fun j x hx => by
      have hj : 900 ≤ j := Nat.le_of_not_lt fun hlt => by rw [hI.gm.en j hlt] at hx; cases hx
      by_cases e : j = gid f' i
      · subst e; rw [hEn] at hx; cases hx
      · rw [u3 j hj e]; exact hx
    have hback := h7 u [(h, ⟨true, true, .rows 1 n (rowsO f' L (i + 1))⟩), (gid f' i, ⟨true, true, .rows 1 (L i) (cpR (L i) (R i))⟩)] ⟨?_, ?_, ?_, ?_, hext⟩
    · refine ⟨rfl, upE E E' u, h1, h2, ⟨hback.sub fun j g hg => ?_, ?_, ?_⟩, hI.ext.trans hext, fun j hj => ?_, ?_, ?_, ?_⟩
      · unfold upS
        rw [findS_cons, findS_cons, findS_nil]
        unfold ovl at hg ⊢
        by_cases e : j = h
        · rw [if_pos e] at hg ⊢; exact hg
        · rw [if_neg e] at hg ⊢
          by_cases e' : j = gid f' i
          · subst e'
            rw [isF_gid hf', pos_gid hf'] at hg
            rw [if_pos rfl]
            rw [if_pos ⟨by simp, by omega⟩] at hg
            exact hg
          · rw [if_neg e']
            rw [if_neg e]
            by_cases hF : isF f' j = true
            · have hp := (isF_iff hf').1 hF
              have hne : posF j ≠ i := fun h => e' (by rw [← h]; exact hp)
              by_cases hlt : posF j < i
              · rw [if_pos ⟨hF, by omega⟩] at hg ⊢; exact hg
              · rw [if_neg (by omega)] at hg ⊢; exact hg
            · rw [if_neg (fun h => hF h.1)] at hg ⊢; exact hg
      · intro j g hg
        unfold ovl at hg
        split at hg
        · omega
        · split at hg
          · rename_i hc
            have := (isF_iff hf').1 hc.1
            have := gid_ge f' (posF j)
            omega
          · refine hI.gm.sn j g ?_
            unfold ovl
            rename_i hc1 hc2
            rw [if_neg hc1, if_neg (fun hc => hc2 ⟨hc.1, by omega⟩)]
            exact hg
      · intro j hj
        have a1 : j ≠ h := by omega
        have a2 : j ≠ gid f' i := by omega
        simp [upE, u, lkN, a1, a2, hj]
      · by_cases e : j = gid f' i
        · exact .inr (.inr ⟨i, by omega, e⟩)
        · by_cases hj9 : 900 ≤ j
          · rw [u3 j hj9 e] at hj
            rcases hI.old j hj with k | k | ⟨p, k1, k2⟩
            · exact .inl k
            · exact .inr (.inl k)
            · exact .inr (.inr ⟨p, by omega, k2⟩)
          · exfalso
            have a1 : j ≠ h := by omega
            have a3 : j < 900 := by omega
            apply hj
            simp [upE, u, lkN, a1, e, a3]
      · refine sl_as p0 (fun x hx => ?_) (by omega) _ id
        rw [u3 hA hA1.1 (by omega), ← e2]; exact hx
      · refine sl_as p3 (fun x hx => ?_) (by omega) _ id
        rw [u1]; exact hx
      · rw [wrapN (by omega)] at p4
        exact p4
    · intro p hp
      simp only [List.mem_cons, List.not_mem_nil, or_false] at hp
      rcases hp with rfl | rfl
      · refine ⟨3, _, by simp [u, lkN], q3, Wk.rows id id (Int.le_refl _) fun j c v h0 h1 hv => ?_, .inl ⟨_, by simp [findS_cons]; rfl, fun _ => rfl, by simp [lkN]⟩⟩
        unfold rowsO at hv ⊢
        by_cases e : j = (i : Int)
        · rw [decide_eq_true e] at hv
          rw [if_pos (by omega)]
          subst e
          refine one_row (fun v hv => sl_as hv (fun x hx => ?_) (by have := gid_ge f' (Int.toNat (i : Int)); omega) _ (fun h => by cases h)) hv
          show upE E E' u (gid f' i) = some x
          rw [u2]; exact hx
        · rw [decide_eq_false e] at hv
          simp only [cond_false] at hv
          by_cases hj : j < (i : Int)
          · rw [if_pos hj] at hv
            rw [if_pos (by omega)]
            have hge := gid_ge f' j.toNat
            refine one_row (fun v hv => sl_as hv (fun x hx => ?_) (by omega) _ id) hv
            rw [u3 _ (by omega) (fun h => by have := gid_inj h; omega), ← ebig _ (by omega)]
            exact hx
          · rw [if_neg hj] at hv
            rw [if_neg (by omega)]
            exact one_row (fun v hv => nil_as hv) hv
      · exact ⟨22, _, by simp [u, lkN, hgh], q22, Wk.flat id id (SlFloat32.shape_flat (cpR_shape _ _)), .inr ⟨by simp [lkN], by omega, rfl⟩⟩
    · intro p hp
      simp only [u, List.mem_cons, List.not_mem_nil, or_false] at hp
      rcases hp with rfl | rfl <;> simp [findS_cons]
      split <;> simp
    · intro p hp q hq
      simp only [u, List.mem_cons, List.not_mem_nil, or_false] at hp hq
      rcases hp with rfl | rfl <;> rcases hq with rfl | rfl <;> simp
    · intro p hp
      simp only [List.mem_cons, List.not_mem_nil, or_false] at hp
      rcases hp with rfl | rfl | rfl <;> simp [lkN, u]
end
end
end Go.Proofs.Ytaoeigofmfpamaa
end

/- 'toFloat32SS': its call. Nothing is assumed. -/
section
namespace Go.Proofs.Ytaoeigofmfpamaa
open Go
noncomputable section
section
variable {w0 w : World} {T0 : Nat → Nat → Prop} {E : EM} {sg : Nat → Option Seg} {hA f : Nat} {n : Int} {L : Nat → Int} {R : Nat → Int → List SC} {rw : Bool} {h f' : Nat}
theorem okNil : AllOK Try.prog [] := trivial
theorem toSS_call (gm : GM w0 T0 E sg w) (hss : SSof sg rw hA f n L R) (hn0 : 0 ≤ n) (hn : n ≤ 1048576) (hA1 : 900 ≤ hA ∧ hA < 1000) (hf : f < 32) (hf' : f' < 32) (hff : f ≠ f') (hh : 900 ≤ h ∧ h < 1000) (hhA : hA ≠ h) (hfh : E h = none) (hfr : ∀ p, E (gid f' p) = none)
    {vA : Value} (hv : RelC E (.sl hA 0 1 (.s n) false) vA) :
    NextOK Try.prog ((callFunc 30 #[vA]).run Try.prog w) fun r w' => ∃ E2, Ext E E2 ∧ (∀ j, E2 j ≠ none → E j ≠ none ∨ j = h ∨ ∃ p, j = gid f' p) ∧ RelC E2 (.sl h 0 1 (.s n) true) r ∧
      GM w0 T0 E2 (ovl sg h f' n n (hdr f' L) L (fun p => cpR (L p) (R p))) w' := by
  refine call_body Try.func30 (by kernel_rfl) to_shape (Nat.le_of_ble_eq_true (show Nat.ble 1 toSS.ntmps = true by kernel_rfl)) fun a hsz hd hargs => ?_
  have h0 : RelV E (.c (.sl hA 0 1 (.s n) false)) (a.tmps.getD 0 undef) := by rw [hargs]; exact hv
  -- the result is nothing at first
  refine wp_seq (wp_mono (gm.step (body_ok okNil mixed 1 _ off) (to_0 fops n) AllT.nil [(2, hA)] (by simp; omega) ?_ hsz hd) fun e a1 w1 hp => ?_)
  · intro p hp
    simp only [List.mem_cons, List.not_mem_nil, or_false] at hp
    subst hp
    exact sl_in h0 (by omega) (by omega) (by simp [lkN])
  obtain ⟨rfl, hsz1, hd1, gm1, E1, he1, p0, _⟩ := hp
  have h01 : RelV E (.c (.sl hA 0 1 (.s n) false)) (a1.tmps.getD 0 undef) := sl_out p0 (he1 2 (.inl (by omega))) (by omega) (by omega) (by simp [lkN])
  -- the headers are made
  refine wp_seq (wp_mono (stepG (body_ok okNil mixed 1 _ off) (to_1 fops n) (AllT.cons (by simp; omega) AllT.nil) gm1.mem [(2, hA)] (by simp; omega) gm1.sn ?_ hsz1 hd1 (fun p hp => by cases hp) (fun p hp => by cases hp)) fun e a2 w2 hp => ?_)
  · intro p hp
    simp only [List.mem_cons, List.not_mem_nil, or_false] at hp
    subst hp
    exact sl_in h01 (by omega) (by omega) (by simp [lkN])
  obtain ⟨rfl, hsz2, hd2, E2, sg2, _, he2, ⟨p0, p3, _⟩, ⟨q10, _⟩, hback⟩ := hp
  have h02 : RelV E (.c (.sl hA 0 1 (.s n) false)) (a2.tmps.getD 0 undef) := sl_out p0 (he2 2 (.inl (by omega))) (by omega) (by omega) (by simp [lkN])
  have u1 : upE E E2 [(h, 10)] h = E2 10 := by simp [upE, lkN]
  have u3 : ∀ j, 900 ≤ j → j ≠ h → upE E E2 [(h, 10)] j = E j := fun j hj hne => by simp [upE, lkN, hne]; omega
  have hext : Ext E (upE E E2 [(h, 10)]) := fun j x hx => by
    have hj : 900 ≤ j := Nat.le_of_not_lt fun hlt => by rw [gm.en j hlt] at hx; cases hx
    by_cases e : j = h
    · subst e; rw [hfh] at hx; cases hx
    · rw [u3 j hj e]; exact hx
  have hmem := hback [(h, 10)] [(h, ⟨true, true, .rows 1 n (rowsO f' L 0)⟩)] ⟨?_, ?_, ?_, fun p hp => (by cases hp), hext⟩
  rotate_left
  · intro p hp
    simp only [List.mem_cons, List.not_mem_nil, or_false] at hp
    subst hp
    refine ⟨10, _, by simp [lkN], q10, Wk.rows id id (Int.le_refl _) fun j c v k0 k1 hv => ?_, .inr ⟨by simp [lkN], by omega, rfl⟩⟩
    unfold rowsO
    rw [if_neg (by omega)]
    exact one_row (fun v hv => nil_as hv) hv
  · intro p hp
    simp only [List.mem_cons, List.not_mem_nil, or_false] at hp
    subst hp
    simp [findS_cons]
  · intro p hp q hq
    simp only [List.mem_cons, List.not_mem_nil, or_false] at hp hq
    subst hp; subst hq; intro _; rfl
  have gm2 : GM w0 T0 (upE E E2 [(h, 10)]) (ovl sg h f' (0 : Nat) n (rowsO f' L 0) L (fun p => cpR (L p) (R p))) w2 := by
    refine ⟨hmem.sub fun j g hg => ?_, fun j g hg => ?_, fun j hj => ?_⟩
    · unfold ovl at hg
      unfold upS
      rw [findS_cons, findS_nil]
      by_cases e : j = h
      · rw [if_pos e] at hg ⊢; exact hg
      · rw [if_neg e] at hg ⊢
        rw [if_neg (by omega)] at hg
        exact hg
    · unfold ovl at hg
      split at hg
      · omega
      · rw [if_neg (by omega)] at hg
        exact gm.sn j g hg
    · have : j ≠ h := by omega
      simp [upE, lkN, this, hj]
  generalize hEq : upE E E2 [(h, 10)] = E3 at *
  have h33 : RelV E3 (.c (.sl h 0 1 (.s n) true)) (a2.tmps.getD 3 undef) := sl_as p3 (fun x hx => by rw [u1]; exact hx) (by omega) _ id
  -- the rounds
  refine wp_seq (wp_seq (wp_mono (gm2.step (body_ok okNil mixed 1 _ off) (to_2 fops n) AllT.nil [(2, hA), (3, h)] (by simp; omega) ?_ hsz2 hd2) fun e a3 w3 hp => ?_))
  · intro p hp
    simp only [List.mem_cons, List.not_mem_nil, or_false] at hp
    rcases hp with rfl | rfl
    · exact sl_in (h02.mono hext) (by omega) (by omega) (by simp [lkN])
    · exact sl_in h33 (by omega) (by omega) (by simp [lkN])
  obtain ⟨rfl, hsz3, hd3, gm3, E4, he4, p0, p3, p4, _⟩ := hp
  have hI : ToI w0 T0 E sg hA n L R h f' 0 E3 a3 w3 := by
    refine ⟨hsz3, hd3, gm3, hext, fun j hj => ?_, sl_out p0 (he4 2 (.inl (by omega))) (by omega) (by omega) (by simp [lkN]), sl_out p3 (he4 3 (.inl (by omega))) (by omega) (by omega) (by simp [lkN]), p4⟩
    by_cases e : j = h
    · exact .inr (.inl e)
    · by_cases hj9 : 900 ≤ j
      · rw [u3 j hj9 e] at hj; exact .inl hj
      · exact absurd (gm3.en j (by omega)) hj
  refine wp_block (wp_loop_inv (fun m a w => ∃ (i : Nat) (E' : EM), (m : Int) = n - i ∧ (i : Int) ≤ n ∧ ToI w0 T0 E sg hA n L R h f' i E' a w) (fun m a w hi => ?_) n.toNat a3 w3 ⟨0, E3, by omega, by omega, hI⟩)
  obtain ⟨i, E', hm, hin, hI⟩ := hi
  by_cases hlt : (i : Int) < n
  · refine wp_mono (to_round hss hn hA1 hf hf' hff hh hhA hfr hlt hI) fun e a' w' hp => ?_
    obtain ⟨rfl, E'', hI'⟩ := hp
    exact .inl ⟨rfl, m - 1, by omega, i + 1, E'', by omega, by omega, hI'⟩
  · have eN : (i : Int) = n := by omega
    refine wp_mono (hI.gm.step (body_ok okNil mixed 1 _ (on1 11 false)) (to_end fops n i) (AllT.cons (by simp; omega) (AllT.cons rfl AllT.nil)) [(2, hA), (3, h)] (by simp; omega) ?_ hI.sz hI.dfr) fun e a' w' hp => ?_
    · intro p hp
      simp only [List.mem_cons, List.not_mem_nil, or_false] at hp
      rcases hp with rfl | rfl | rfl
      · exact sl_in hI.s0 (by omega) (by omega) (by simp [lkN])
      · exact sl_in hI.s3 (by omega) (by omega) (by simp [lkN])
      · exact hI.s4
    obtain ⟨rfl, hsz4, hd4, gm4, E5, he5, p3, _⟩ := hp
    refine .inr ⟨by simp [exitOf], ?_⟩
    have h34 : RelV E' (.c (.sl h 0 1 (.s n) true)) (a'.tmps.getD 3 undef) := sl_out p3 (he5 3 (.inl (by omega))) (by omega) (by omega) (by simp [lkN])
    -- the way out
    show (cR (cR (cR (bodyC toSS)))).wp Try.prog _ a' w'
    refine wp_mono (gm4.step (body_ok okNil mixed 1 _ off) (to_3 fops n) (AllT.cons rfl AllT.nil) [(3, h)] (by simp; omega) ?_ hsz4 hd4) fun e a5 w5 hp => ?_
    · intro p hp
      simp only [List.mem_cons, List.not_mem_nil, or_false] at hp
      subst hp
      exact sl_in h34 (by omega) (by omega) (by simp [lkN])
    obtain ⟨rfl, hsz5, hd5, gm5, E6, he6, p2, _⟩ := hp
    refine ⟨hd5, _, results1 to_res, _, rfl, E', hI.ext, fun j hj => ?_, sl_out p2 (he6 3 (.inl (by omega))) (by omega) (by omega) (by simp [lkN]), gm5.hdrs eN.symm fun j c v k0 k1 hv => ?_⟩
    · exact (hI.old j hj).imp id fun k => k.imp id fun ⟨p, _, e⟩ => ⟨p, e⟩
    · unfold rowsO at hv
      rw [if_pos (by omega)] at hv
      exact hv
end
end
end Go.Proofs.Ytaoeigofmfpamaa
end

/- Slices of slices of floats: the pieces of 'szFloat32SS', 'eqFloat32SS', 'markFloat32SS'. Nothing is assumed. -/
section
namespace Go.Proofs.Ytaoeigofmfpamaa
open Go
noncomputable section
noncomputable abbrev szSS : Func := Try.f28
noncomputable abbrev szX : Code := bodyOf szSS 5
noncomputable def hSz (i : Nat) (m : Int) : List (Nat × CS) := [(1000020, hntS (hd1 i m))]
set_option maxRecDepth 100000 in
theorem sz_shape : szSS.body = some (.seq (cL (bodyC szSS)) (.seq (cL (cR (bodyC szSS))) (.seq (cL (cR (cR (bodyC szSS)))) (.seq (.seq (cL (cL (cR (cR (cR (bodyC szSS)))))) (.block 0 (.loop szX))) (cR (cR (cR (cR (bodyC szSS))))))))) := by kernel_rfl
set_option maxRecDepth 100000 in
theorem sz_0 (O : FOps) (n u : Int) : runV (cxA O []) szSS.ntmps ⟨off, fun _ => none⟩ (cL (bodyC szSS)) [(0, .c (.sl 2 0 1 (.s n) false)), (1, .c (.int .i64 (.s u)))] [] 10 0 [0, 1] [] =
    some (none, [.c (.sl 2 0 1 (.s n) false), .c (.int .i64 (.s u))], [], []) := by kernel_rfl
set_option maxRecDepth 100000 in
theorem sz_1 (O : FOps) (n u : Int) : runV (cxA O []) szSS.ntmps ⟨off, fun _ => none⟩ (cL (cR (bodyC szSS))) [(0, .c (.sl 2 0 1 (.s n) false)), (1, .c (.int .i64 (.s u)))] [] 10 0 [0, 1] [] =
    some (none, [.c (.sl 2 0 1 (.s n) false), .c (.int .i64 (.s (IntKind.i64.wrap (u - n))))], [], []) := by kernel_rfl
set_option maxRecDepth 100000 in
theorem sz_2t (O : FOps) (n u : Int) : runV (cxA O []) szSS.ntmps ⟨on1 11 true, fun _ => none⟩ (cL (cR (cR (bodyC szSS)))) [(0, .c (.sl 2 0 1 (.s n) false)), (1, .c (.int .i64 (.s u)))] [] 10 0 [4] [] =
    some (some .ret, [.c (.int .i64 (.c (-1)))], [], [decide (u < 0), true]) := by kernel_rfl
set_option maxRecDepth 100000 in
theorem sz_2f (O : FOps) (n u : Int) : runV (cxA O []) szSS.ntmps ⟨on1 11 false, fun _ => none⟩ (cL (cR (cR (bodyC szSS)))) [(0, .c (.sl 2 0 1 (.s n) false)), (1, .c (.int .i64 (.s u)))] [] 10 0 [0, 1] [] =
    some (none, [.c (.sl 2 0 1 (.s n) false), .c (.int .i64 (.s u))], [], [!decide (u < 0)]) := by kernel_rfl
set_option maxRecDepth 100000 in
theorem sz_3 (O : FOps) (n u : Int) : runV (cxA O []) szSS.ntmps ⟨off, fun _ => none⟩ (cL (cL (cR (cR (cR (bodyC szSS)))))) [(0, .c (.sl 2 0 1 (.s n) false)), (1, .c (.int .i64 (.s u)))] [] 10 0 [0, 1, 5] [] =
    some (none, [.c (.sl 2 0 1 (.s n) false), .c (.int .i64 (.s u)), .c (.int .i64 (.c 0))], [], []) := by kernel_rfl
noncomputable def szf (u m : Int) : Int := bif decide (IntKind.i64.wrap (u - m) < 0) then -1 else IntKind.i64.wrap (u - m)
set_option maxRecDepth 100000 in
theorem sz_rd (O : FOps) (n i m u : Int) (hdr : Int → List SC) : runV (cxA O (hSz 21 m)) szSS.ntmps ⟨on2 15 true 25 false, fun _ => none⟩ szX [(0, .c (.sl 2 0 1 (.s n) false)), (1, .c (.int .i64 (.s u))), (5, .c (.int .i64 (.s i)))]
    [(2, ⟨false, false, .rows 1 n hdr⟩)] 22 0 [0, 1, 5] [] =
    some (none, [.c (.sl 2 0 1 (.s n) false), .c (.int .i64 (.s (szf u m))), .c (.int .i64 (.s (IntKind.i64.wrap (i + 1))))], [],
      [decide (i < n), decide (0 ≤ i ∧ i < n), decide (0 ≤ i ∧ i < n), rowIs hdr i (hd1 21 m), !decide (szf u m < 0)]) := by kernel_rfl
set_option maxRecDepth 100000 in
theorem sz_rt (O : FOps) (n i m u : Int) (hdr : Int → List SC) : runV (cxA O (hSz 21 m)) szSS.ntmps ⟨on2 15 true 25 true, fun _ => none⟩ szX [(0, .c (.sl 2 0 1 (.s n) false)), (1, .c (.int .i64 (.s u))), (5, .c (.int .i64 (.s i)))]
    [(2, ⟨false, false, .rows 1 n hdr⟩)] 22 0 [4] [] =
    some (some .ret, [.c (.int .i64 (.c (-1)))], [],
      [decide (i < n), decide (0 ≤ i ∧ i < n), decide (0 ≤ i ∧ i < n), rowIs hdr i (hd1 21 m), decide (szf u m < 0), true]) := by kernel_rfl
set_option maxRecDepth 100000 in
theorem sz_end (O : FOps) (n i u : Int) : runV (cxA O []) szSS.ntmps ⟨on1 15 false, fun _ => none⟩ szX [(0, .c (.sl 2 0 1 (.s n) false)), (1, .c (.int .i64 (.s u))), (5, .c (.int .i64 (.s i)))]
    [] 10 0 [1] [] = some (some (.exit 0), [.c (.int .i64 (.s u))], [], [!decide (i < n), true]) := by kernel_rfl
set_option maxRecDepth 100000 in
theorem sz_4 (O : FOps) (u : Int) : runV (cxA O []) szSS.ntmps ⟨off, fun _ => none⟩ (cR (cR (cR (cR (bodyC szSS))))) [(1, .c (.int .i64 (.s u)))] [] 10 0 [4] [] =
    some (some .ret, [.c (.int .i64 (.s u))], [], [true]) := by kernel_rfl
theorem sz_res : szSS.results.toList = [.tmp 4] := by kernel_rfl

noncomputable abbrev eqSS : Func := Try.f32
noncomputable abbrev eqX : Code := bodyOf eqSS 4
noncomputable def hEq (O : FOps) (m : Int) : List (Nat × CS) := [(1000019, hntS (hd1 21 m)), (1000023, hntS (hd1 22 m)), (24, SlFloat32.eqC O)]
set_option maxRecDepth 100000 in
theorem eq_shape : eqSS.body = some (.seq (cL (bodyC eqSS)) (.seq (cL (cR (bodyC eqSS))) (.seq (.seq (cL (cL (cR (cR (bodyC eqSS))))) (.block 0 (.loop eqX))) (cR (cR (cR (bodyC eqSS))))))) := by kernel_rfl
set_option maxRecDepth 100000 in
theorem eq_0 (O : FOps) (n : Int) : runV (cxA O []) eqSS.ntmps ⟨off, fun _ => none⟩ (cL (bodyC eqSS)) [(0, .c (.sl 2 0 1 (.s n) false)), (1, .c (.sl 3 0 1 (.s n) false))] [] 10 0 [0, 1] [] =
    some (none, [.c (.sl 2 0 1 (.s n) false), .c (.sl 3 0 1 (.s n) false)], [], []) := by kernel_rfl
set_option maxRecDepth 100000 in
theorem eq_1 (O : FOps) (n : Int) : runV (cxA O []) eqSS.ntmps ⟨on1 10 false, fun _ => none⟩ (cL (cR (bodyC eqSS))) [(0, .c (.sl 2 0 1 (.s n) false)), (1, .c (.sl 3 0 1 (.s n) false))] [] 10 0 [0, 1] [] =
    some (none, [.c (.sl 2 0 1 (.s n) false), .c (.sl 3 0 1 (.s n) false)], [], [!(!decide (n = n))]) := by kernel_rfl
set_option maxRecDepth 100000 in
theorem eq_2 (O : FOps) (n : Int) : runV (cxA O []) eqSS.ntmps ⟨off, fun _ => none⟩ (cL (cL (cR (cR (bodyC eqSS))))) [(0, .c (.sl 2 0 1 (.s n) false)), (1, .c (.sl 3 0 1 (.s n) false))] [] 10 0 [0, 1, 5] [] =
    some (none, [.c (.sl 2 0 1 (.s n) false), .c (.sl 3 0 1 (.s n) false), .c (.int .i64 (.c 0))], [], []) := by kernel_rfl
set_option maxRecDepth 100000 in
theorem eq_rd (O : FOps) (n i m : Int) (hdr hdr' row row' : Int → List SC) : runV (cxA O (hEq O m)) eqSS.ntmps ⟨on2 14 true 26 false, fun _ => none⟩ eqX [(0, .c (.sl 2 0 1 (.s n) false)), (1, .c (.sl 3 0 1 (.s n) false)), (5, .c (.int .i64 (.s i)))]
    [(2, ⟨false, false, .rows 1 n hdr⟩), (3, ⟨false, false, .rows 1 n hdr'⟩), (21, ⟨false, false, .rows 1 m row⟩), (22, ⟨false, false, .rows 1 m row'⟩)] 23 0 [0, 1, 5] [] =
    some (none, [.c (.sl 2 0 1 (.s n) false), .c (.sl 3 0 1 (.s n) false), .c (.int .i64 (.s (IntKind.i64.wrap (i + 1))))], [],
      [decide (i < n), decide (0 ≤ i ∧ i < n), decide (0 ≤ i ∧ i < n), rowIs hdr i (hd1 21 m), decide (0 ≤ i ∧ i < n), decide (0 ≤ i ∧ i < n), rowIs hdr' i (hd1 22 m), flatR row', flatR row, SlFloat32.okE' m m row m m row', !(!SlFloat32.eqR O m m row row')]) := by kernel_rfl
set_option maxRecDepth 100000 in
theorem eq_end (O : FOps) (n i : Int) : runV (cxA O []) eqSS.ntmps ⟨on1 14 false, fun _ => none⟩ eqX [(0, .c (.sl 2 0 1 (.s n) false)), (1, .c (.sl 3 0 1 (.s n) false)), (5, .c (.int .i64 (.s i)))]
    [] 10 0 [] [] = some (some (.exit 0), [], [], [!decide (i < n), true]) := by kernel_rfl
set_option maxRecDepth 100000 in
theorem eq_3 (O : FOps) : runV (cxA O []) eqSS.ntmps ⟨off, fun _ => none⟩ (cR (cR (cR (bodyC eqSS)))) [] [] 10 0 [4] [] =
    some (some .ret, [.c (.bool .t)], [], [true]) := by kernel_rfl
theorem eq_res : eqSS.results.toList = [.tmp 4] := by kernel_rfl

noncomputable abbrev maSS : Func := Try.f33
noncomputable abbrev maX : Code := bodyOf maSS 2
noncomputable def hMa (O : FOps) (m : Int) : List (Nat × CS) := [(1000014, hntS (hd1 21 m)), (26, SlFloat32.maC O)]
set_option maxRecDepth 100000 in
theorem ma_shape : maSS.body = some (.seq (cL (bodyC maSS)) (.seq (.seq (cL (cL (cR (bodyC maSS)))) (.block 0 (.loop maX))) (cR (cR (bodyC maSS))))) := by kernel_rfl
set_option maxRecDepth 100000 in
theorem ma_0 (O : FOps) (n u : Int) : runV (cxA O []) maSS.ntmps ⟨off, fun _ => none⟩ (cL (bodyC maSS)) [(0, .c (.sl 2 0 1 (.s n) false)), (1, .c (.int .i64 (.s u)))] [] 10 0 [0, 1] [] =
    some (none, [.c (.sl 2 0 1 (.s n) false), .c (.int .i64 (.s u))], [], []) := by kernel_rfl
set_option maxRecDepth 100000 in
theorem ma_1 (O : FOps) (n u : Int) : runV (cxA O []) maSS.ntmps ⟨off, fun _ => none⟩ (cL (cL (cR (bodyC maSS)))) [(0, .c (.sl 2 0 1 (.s n) false)), (1, .c (.int .i64 (.s u)))] [] 10 0 [0, 1, 5] [] =
    some (none, [.c (.sl 2 0 1 (.s n) false), .c (.int .i64 (.s u)), .c (.int .i64 (.c 0))], [], []) := by kernel_rfl
set_option maxRecDepth 100000 in
theorem ma_rd (O : FOps) (n i m u : Int) (hdr row : Int → List SC) : runV (cxA O (hMa O m)) maSS.ntmps ⟨on1 9 true, fun _ => none⟩ maX [(0, .c (.sl 2 0 1 (.s n) false)), (1, .c (.int .i64 (.s u))), (5, .c (.int .i64 (.s i)))]
    [(2, ⟨false, false, .rows 1 n hdr⟩), (21, ⟨true, false, .rows 1 m row⟩)] 22 0 [0, 1, 5] [21] =
    some (none, [.c (.sl 2 0 1 (.s n) false), .c (.int .i64 (.s (u + 1 * m))), .c (.int .i64 (.s (IntKind.i64.wrap (i + 1))))], [some ⟨true, false, .rows 1 m (SlFloat32.mkR O u m row)⟩],
      [decide (i < n), decide (0 ≤ i ∧ i < n), decide (0 ≤ i ∧ i < n), rowIs hdr i (hd1 21 m), flatR row, flatR (SlFloat32.mkR O u m row), SlFloat32.okM' m u m row]) := by kernel_rfl
set_option maxRecDepth 100000 in
theorem ma_end (O : FOps) (n i u : Int) : runV (cxA O []) maSS.ntmps ⟨on1 9 false, fun _ => none⟩ maX [(0, .c (.sl 2 0 1 (.s n) false)), (1, .c (.int .i64 (.s u))), (5, .c (.int .i64 (.s i)))]
    [] 10 0 [1] [] = some (some (.exit 0), [.c (.int .i64 (.s u))], [], [!decide (i < n), true]) := by kernel_rfl
set_option maxRecDepth 100000 in
theorem ma_2 (O : FOps) (u : Int) : runV (cxA O []) maSS.ntmps ⟨off, fun _ => none⟩ (cR (cR (bodyC maSS))) [(1, .c (.int .i64 (.s u)))] [] 10 0 [4] [] =
    some (some .ret, [.c (.int .i64 (.s u))], [], [true]) := by kernel_rfl
theorem ma_res : maSS.results.toList = [.tmp 4] := by kernel_rfl
end
end Go.Proofs.Ytaoeigofmfpamaa
end

/- Slices of slices of floats: their sizes. Nothing is assumed. -/
section
namespace Go.Proofs.Ytaoeigofmfpamaa
open Go
noncomputable section
section
variable {w0 w : World} {T0 : Nat → Nat → Prop} {E : EM} {sg : Nat → Option Seg} {hA f : Nat} {n : Int} {L : Nat → Int}
theorem szf_eq {u m : Int} (h0 : 0 ≤ u) (h1 : u ≤ 1048576) (h2 : 0 ≤ m) (h3 : m ≤ 9223372036854775807) : szf u m = if u - m < 0 then -1 else u - m := by
  unfold szf
  have : IntKind.i64.wrap (u - m) = u - m := wrap_wd (by omega) (by omega)
  rw [this]
  by_cases h : u - m < 0
  · rw [decide_eq_true h, if_pos h]; rfl
  · rw [decide_eq_false h, if_neg h]; rfl
structure SzI (w0 : World) (T0 : Nat → Nat → Prop) (E : EM) (sg : Nat → Option Seg) (hA : Nat) (n : Int) (L : Nat → Int) (i : Nat) (a : Act) (w : World) : Prop where
  sz : a.tmps.size = szSS.ntmps
  dfr : a.defers = []
  gm : GM w0 T0 E sg w
  u0 : 0 ≤ 1048576 - n - sumL L i
  s0 : RelV E (.c (.sl hA 0 1 (.s n) false)) (a.tmps.getD 0 undef)
  s1 : RelV E (.c (.int .i64 (.s (1048576 - n - sumL L i)))) (a.tmps.getD 1 undef)
  s5 : RelV E (.c (.int .i64 (.s (i : Int)))) (a.tmps.getD 5 undef)
def SzR (w0 : World) (T0 : Nat → Nat → Prop) (E : EM) (sg : Nat → Option Seg) (n : Int) (L : Nat → Int) (r : Value) (w' : World) : Prop :=
  ∃ v, r = .int .i64 v ∧ GM w0 T0 E sg w' ∧ (0 ≤ v → n + sumL L n.toNat ≤ 1048576)
theorem szSS_call (gm : GM w0 T0 E sg w) (hhd : 0 < n → ∃ rw o, sg hA = some ⟨rw, o, .rows 1 n (hdr f L)⟩) (hn0 : 0 ≤ n) (hn : n ≤ 9223372036854775807) (hL : ∀ p : Nat, (p : Int) < n → 0 ≤ L p ∧ L p ≤ 9223372036854775807) (hA1 : 900 ≤ hA ∧ hA < 1000)
    {vA : Value} (hv : RelC E (.sl hA 0 1 (.s n) false) vA) :
    NextOK Try.prog ((callFunc 28 #[vA, .int .i64 1048576]).run Try.prog w) (SzR w0 T0 E sg n L) := by
  refine call_body Try.func28 (by kernel_rfl) sz_shape (Nat.le_of_ble_eq_true (show Nat.ble 2 szSS.ntmps = true by kernel_rfl)) fun a hsz hd hargs => ?_
  have h0 : RelV E (.c (.sl hA 0 1 (.s n) false)) (a.tmps.getD 0 undef) := by rw [hargs]; exact hv
  have h1 : RelV E (.c (.int .i64 (.s 1048576))) (a.tmps.getD 1 undef) := by rw [hargs]; rfl
  have al : lkN [(2, hA)] 2 = some hA := by simp [lkN]
  have hal : ∀ p ∈ [(2, hA)], p.1 < 10 ∧ p.1 < 900 ∧ 900 ≤ p.2 := allC ⟨by simp, by simp, hA1.1⟩ all0
  have hLn : ∀ p, p < n.toNat → 0 ≤ L p := fun p hp => (hL p (by omega)).1
  refine wp_seq (wp_mono (gm.step (body_ok okNil mixed 1 _ off) (sz_0 fops n 1048576) AllT.nil [(2, hA)] hal (allC (sl_in h0 (by omega) (by omega) al) (allC h1 all0)) hsz hd) fun e a1 w1 hp => ?_)
  obtain ⟨rfl, hsz1, hd1, gm1, E1, he1, p0, p1, _⟩ := hp
  have h01 : RelV E (.c (.sl hA 0 1 (.s n) false)) (a1.tmps.getD 0 undef) := sl_out p0 (he1 2 (.inl (by omega))) (by omega) (by omega) al
  refine wp_seq (wp_mono (gm1.step (body_ok okNil mixed 1 _ off) (sz_1 fops n 1048576) AllT.nil [(2, hA)] hal (allC (sl_in h01 (by omega) (by omega) al) (allC p1 all0)) hsz1 hd1) fun e a2 w2 hp => ?_)
  obtain ⟨rfl, hsz2, hd2, gm2, E2, he2, p0, p1, _⟩ := hp
  have h02 : RelV E (.c (.sl hA 0 1 (.s n) false)) (a2.tmps.getD 0 undef) := sl_out p0 (he2 2 (.inl (by omega))) (by omega) (by omega) al
  have hw : IntKind.i64.wrap (1048576 - n) = 1048576 - n := wrap_wd (by omega) (by omega)
  rw [hw] at p1
  by_cases hneg : 1048576 - n < 0
  · refine wp_seq (wp_mono (gm2.step (body_ok okNil mixed 1 _ (on1 11 true)) (sz_2t fops n (1048576 - n)) (AllT.cons (decide_eq_true hneg) (AllT.cons rfl AllT.nil)) [(2, hA)] hal (allC (sl_in h02 (by omega) (by omega) al) (allC p1 all0)) hsz2 hd2) fun e a3 w3 hp => ?_)
    obtain ⟨rfl, hsz3, hd3, gm3, E3, he3, p4, _⟩ := hp
    exact ⟨hd3, _, results1 sz_res, _, rfl, -1, p4, gm3, fun h => by omega⟩
  refine wp_seq (wp_mono (gm2.step (body_ok okNil mixed 1 _ (on1 11 false)) (sz_2f fops n (1048576 - n)) (AllT.cons (by rw [decide_eq_false hneg]; rfl) AllT.nil) [(2, hA)] hal (allC (sl_in h02 (by omega) (by omega) al) (allC p1 all0)) hsz2 hd2) fun e a3 w3 hp => ?_)
  obtain ⟨rfl, hsz3, hd3, gm3, E3, he3, p0, p1, _⟩ := hp
  have h03 : RelV E (.c (.sl hA 0 1 (.s n) false)) (a3.tmps.getD 0 undef) := sl_out p0 (he3 2 (.inl (by omega))) (by omega) (by omega) al
  refine wp_seq (wp_seq (wp_mono (gm3.step (body_ok okNil mixed 1 _ off) (sz_3 fops n (1048576 - n)) AllT.nil [(2, hA)] hal (allC (sl_in h03 (by omega) (by omega) al) (allC p1 all0)) hsz3 hd3) fun e a4 w4 hp => ?_))
  obtain ⟨rfl, hsz4, hd4, gm4, E4, he4, p0, p1, p5, _⟩ := hp
  have h04 : RelV E (.c (.sl hA 0 1 (.s n) false)) (a4.tmps.getD 0 undef) := sl_out p0 (he4 2 (.inl (by omega))) (by omega) (by omega) al
  have hI : SzI w0 T0 E sg hA n L 0 a4 w4 := ⟨hsz4, hd4, gm4, by simp only [sumL]; omega, h04, by simp only [sumL, Int.sub_zero]; exact p1, p5⟩
  refine wp_block (wp_loop_inv (fun m a w => ∃ (i : Nat), (m : Int) = n - i ∧ (i : Int) ≤ n ∧ SzI w0 T0 E sg hA n L i a w) (fun m a w hi => ?_) n.toNat a4 w4 ⟨0, by omega, by omega, hI⟩)
  obtain ⟨i, hm, hin, hI⟩ := hi
  by_cases hlt : (i : Int) < n
  · obtain ⟨rwA, oA, hgA⟩ := hhd (by omega)
    obtain ⟨hLi0, hLi1⟩ := hL i hlt
    have hsum := (sumL_le hLn i (by omega)).1
    have hu1 := hI.u0
    have hge := gid_ge f i
    have hsf := szf_eq (u := 1048576 - n - sumL L i) (m := L i) hu1 (by omega) hLi0 hLi1
    have hal2 : ∀ p ∈ [(2, hA), (21, gid f i)], p.1 < 22 ∧ p.1 < 900 ∧ 900 ≤ p.2 := allC ⟨by simp, by simp, hA1.1⟩ (allC ⟨by simp, by simp, by simp only; omega⟩ all0)
    have al2 : lkN [(2, hA), (21, gid f i)] 2 = some hA := by simp [lkN]
    have hs : ∀ p ∈ [(0, SV.c (.sl 2 0 1 (.s n) false)), (1, .c (.int .i64 (.s (1048576 - n - sumL L i)))), (5, .c (.int .i64 (.s (i : Int))))], RelV (alE E [(2, hA), (21, gid f i)]) p.2 (a.tmps.getD p.1 undef) :=
      allC (sl_in hI.s0 (by omega) (by omega) al2) (allC hI.s1 (allC hI.s5 all0))
    have hrd : ∀ p ∈ [((2 : Nat), (⟨false, false, .rows 1 n (hvw i 21 (L i))⟩ : Seg))], ∃ g s0, lkN [(2, hA), (21, gid f i)] p.1 = some g ∧ sg g = some s0 ∧ Wk E (alE E [(2, hA), (21, gid f i)]) s0 p.2 :=
      allC ⟨hA, _, al2, hgA, Wk.hvw (by decide) (by decide) (by simp [lkN])⟩ all0
    have hinj : ∀ p ∈ [((2 : Nat), (⟨false, false, .rows 1 n (hvw i 21 (L i))⟩ : Seg))], ∀ q ∈ [((2 : Nat), (⟨false, false, .rows 1 n (hvw i 21 (L i))⟩ : Seg))], p.1 ≠ q.1 → (p.2.rw = true ∨ q.2.rw = true) → lkN [(2, hA), (21, gid f i)] p.1 ≠ lkN [(2, hA), (21, gid f i)] q.1 :=
      allC (allC (fun h => absurd rfl h) all0) all0
    by_cases hng : szf (1048576 - n - sumL L i) (L i) < 0
    · refine wp_mono (stepG (body_ok (l := hSz 21 (L i)) ⟨hintOK _, trivial⟩ mixed 1 szX (on2 15 true 25 true)) (sz_rt fops n i (L i) (1048576 - n - sumL L i) (hvw i 21 (L i)))
        (AllT.cons (decide_eq_true hlt) (AllT.cons (idx_ok hlt) (AllT.cons (idx_ok hlt) (AllT.cons (rowIs_ok (if_pos rfl)) (AllT.cons (decide_eq_true hng) (AllT.cons rfl AllT.nil))))))
        hI.gm.mem [(2, hA), (21, gid f i)] hal2 hI.gm.sn hs hI.sz hI.dfr hrd hinj) fun e a' w' hp => ?_
      obtain ⟨rfl, k1, k2, E', sg', k3, k4, ⟨p4, _⟩, _, k5⟩ := hp
      have k6 := k5 [] [] ⟨fun p hp => (by cases hp), fun p hp => (by cases hp), fun p hp => (by cases hp), allC (fun h => by cases h) all0, by rw [hI.gm.nil]; exact Ext.refl E⟩
      rw [hI.gm.nil] at k6
      exact .inr ⟨by simp [exitOf], k2, _, results1 sz_res, _, rfl, -1, p4, ⟨k6, hI.gm.sn, hI.gm.en⟩, fun h => by omega⟩
    · refine wp_mono (stepG (body_ok (l := hSz 21 (L i)) ⟨hintOK _, trivial⟩ mixed 1 szX (on2 15 true 25 false)) (sz_rd fops n i (L i) (1048576 - n - sumL L i) (hvw i 21 (L i)))
        (AllT.cons (decide_eq_true hlt) (AllT.cons (idx_ok hlt) (AllT.cons (idx_ok hlt) (AllT.cons (rowIs_ok (if_pos rfl)) (AllT.cons (by rw [decide_eq_false hng]; rfl) AllT.nil)))))
        hI.gm.mem [(2, hA), (21, gid f i)] hal2 hI.gm.sn hs hI.sz hI.dfr hrd hinj) fun e a' w' hp => ?_
      obtain ⟨rfl, k1, k2, E', sg', k3, k4, ⟨p0, p1, p5, _⟩, _, k5⟩ := hp
      have k6 := k5 [] [] ⟨fun p hp => (by cases hp), fun p hp => (by cases hp), fun p hp => (by cases hp), allC (fun h => by cases h) all0, by rw [hI.gm.nil]; exact Ext.refl E⟩
      rw [hI.gm.nil] at k6
      have hpos : ¬ (1048576 - n - sumL L i - L i < 0) := fun h => by rw [hsf, if_pos h] at hng; omega
      rw [hsf, if_neg hpos] at p1
      refine .inl ⟨rfl, m - 1, by omega, i + 1, by omega, by omega, k1, k2, ⟨k6, hI.gm.sn, hI.gm.en⟩, ?_, sl_out p0 (k4 2 (.inl (by omega))) (by omega) (by omega) al2, ?_, ?_⟩
      · simp only [sumL]; omega
      · simp only [sumL]
        rw [show 1048576 - n - (sumL L i + L i) = 1048576 - n - sumL L i - L i by omega]
        exact p1
      · rw [wrapN (by omega)] at p5
        exact p5
  · have eN : (i : Int) = n := by omega
    refine wp_mono (hI.gm.step (body_ok okNil mixed 1 _ (on1 15 false)) (sz_end fops n i (1048576 - n - sumL L i)) (AllT.cons (by rw [decide_eq_false hlt]; rfl) (AllT.cons rfl AllT.nil)) [(2, hA)] hal (allC (sl_in hI.s0 (by omega) (by omega) al) (allC hI.s1 (allC hI.s5 all0))) hI.sz hI.dfr) fun e a' w' hp => ?_
    obtain ⟨rfl, hsz5, hd5, gm5, E5, he5, p1, _⟩ := hp
    refine .inr ⟨by simp [exitOf], ?_⟩
    show (cR (cR (cR (cR (bodyC szSS))))).wp Try.prog _ a' w'
    refine wp_mono (gm5.step (body_ok okNil mixed 1 _ off) (sz_4 fops (1048576 - n - sumL L i)) (AllT.cons rfl AllT.nil) [] all0 (allC p1 all0) hsz5 hd5) fun e a6 w6 hp => ?_
    obtain ⟨rfl, hsz6, hd6, gm6, E6, he6, p4, _⟩ := hp
    refine ⟨hd6, _, results1 sz_res, _, rfl, _, p4, gm6, fun h => ?_⟩
    rw [← eN]
    show (i : Int) + sumL L (Int.toNat (i : Int)) ≤ _
    rw [Int.toNat_natCast]
    have := hI.u0
    omega
end
end
end Go.Proofs.Ytaoeigofmfpamaa
end

/- Slices of slices of floats: compared, marked. Nothing is assumed. -/
section
namespace Go.Proofs.Ytaoeigofmfpamaa
open Go
noncomputable section
section
variable {w0 w : World} {T0 : Nat → Nat → Prop} {E : EM} {sg : Nat → Option Seg} {hA hB f f' : Nat} {n : Int} {L : Nat → Int} {R R' : Nat → Int → List SC} {rw rw' : Bool}
theorem okEq (m : Int) : AllOK Try.prog (hEq fops m) := ⟨hintOK _, hintOK _, SlFloat32.cEqC, trivial⟩
theorem okMa (m : Int) : AllOK Try.prog (hMa fops m) := ⟨hintOK _, SlFloat32.cMaC, trivial⟩
structure EqI (w0 : World) (T0 : Nat → Nat → Prop) (E : EM) (sg : Nat → Option Seg) (hA hB : Nat) (n : Int) (i : Nat) (a : Act) (w : World) : Prop where
  sz : a.tmps.size = eqSS.ntmps
  dfr : a.defers = []
  gm : GM w0 T0 E sg w
  s0 : RelV E (.c (.sl hA 0 1 (.s n) false)) (a.tmps.getD 0 undef)
  s1 : RelV E (.c (.sl hB 0 1 (.s n) false)) (a.tmps.getD 1 undef)
  s5 : RelV E (.c (.int .i64 (.s (i : Int)))) (a.tmps.getD 5 undef)
theorem eqSS_call (gm : GM w0 T0 E sg w) (hss : SSof sg rw hA f n L R) (hss' : SSof sg rw' hB f' n L R') (heq : ∀ p : Nat, (p : Int) < n → R' p = R p) (hn0 : 0 ≤ n) (hn : n ≤ 1048576) (hA1 : 900 ≤ hA ∧ hA < 1000) (hB1 : 900 ≤ hB ∧ hB < 1000)
    {vA vB : Value} (hv : RelC E (.sl hA 0 1 (.s n) false) vA) (hvB : RelC E (.sl hB 0 1 (.s n) false) vB) :
    NextOK Try.prog ((callFunc 32 #[vA, vB]).run Try.prog w) fun r w' => r = .bool true ∧ GM w0 T0 E sg w' := by
  refine call_body Try.func32 (by kernel_rfl) eq_shape (Nat.le_of_ble_eq_true (show Nat.ble 2 eqSS.ntmps = true by kernel_rfl)) fun a hsz hd hargs => ?_
  have h0 : RelV E (.c (.sl hA 0 1 (.s n) false)) (a.tmps.getD 0 undef) := by rw [hargs]; exact hv
  have h1 : RelV E (.c (.sl hB 0 1 (.s n) false)) (a.tmps.getD 1 undef) := by rw [hargs]; exact hvB
  have al2 : lkN [(2, hA), (3, hB)] 2 = some hA := by simp [lkN]
  have al3 : lkN [(2, hA), (3, hB)] 3 = some hB := by simp [lkN]
  have hal : ∀ p ∈ [(2, hA), (3, hB)], p.1 < 10 ∧ p.1 < 900 ∧ 900 ≤ p.2 := allC ⟨by simp, by simp, hA1.1⟩ (allC ⟨by simp, by simp, hB1.1⟩ all0)
  refine wp_seq (wp_mono (gm.step (body_ok okNil mixed 1 _ off) (eq_0 fops n) AllT.nil [(2, hA), (3, hB)] hal (allC (sl_in h0 (by omega) (by omega) al2) (allC (sl_in h1 (by omega) (by omega) al3) all0)) hsz hd) fun e a1 w1 hp => ?_)
  obtain ⟨rfl, hsz1, hd1, gm1, E1, he1, p0, p1, _⟩ := hp
  have h01 : RelV E (.c (.sl hA 0 1 (.s n) false)) (a1.tmps.getD 0 undef) := sl_out p0 (he1 2 (.inl (by omega))) (by omega) (by omega) al2
  have h11 : RelV E (.c (.sl hB 0 1 (.s n) false)) (a1.tmps.getD 1 undef) := sl_out p1 (he1 3 (.inl (by omega))) (by omega) (by omega) al3
  refine wp_seq (wp_mono (gm1.step (body_ok okNil mixed 1 _ (on1 10 false)) (eq_1 fops n) (AllT.cons (by simp) AllT.nil) [(2, hA), (3, hB)] hal (allC (sl_in h01 (by omega) (by omega) al2) (allC (sl_in h11 (by omega) (by omega) al3) all0)) hsz1 hd1) fun e a2 w2 hp => ?_)
  obtain ⟨rfl, hsz2, hd2, gm2, E2, he2, p0, p1, _⟩ := hp
  have h02 : RelV E (.c (.sl hA 0 1 (.s n) false)) (a2.tmps.getD 0 undef) := sl_out p0 (he2 2 (.inl (by omega))) (by omega) (by omega) al2
  have h12 : RelV E (.c (.sl hB 0 1 (.s n) false)) (a2.tmps.getD 1 undef) := sl_out p1 (he2 3 (.inl (by omega))) (by omega) (by omega) al3
  refine wp_seq (wp_seq (wp_mono (gm2.step (body_ok okNil mixed 1 _ off) (eq_2 fops n) AllT.nil [(2, hA), (3, hB)] hal (allC (sl_in h02 (by omega) (by omega) al2) (allC (sl_in h12 (by omega) (by omega) al3) all0)) hsz2 hd2) fun e a4 w4 hp => ?_))
  obtain ⟨rfl, hsz4, hd4, gm4, E4, he4, p0, p1, p5, _⟩ := hp
  have hI : EqI w0 T0 E sg hA hB n 0 a4 w4 := ⟨hsz4, hd4, gm4, sl_out p0 (he4 2 (.inl (by omega))) (by omega) (by omega) al2, sl_out p1 (he4 3 (.inl (by omega))) (by omega) (by omega) al3, p5⟩
  refine wp_block (wp_loop_inv (fun m a w => ∃ (i : Nat), (m : Int) = n - i ∧ (i : Int) ≤ n ∧ EqI w0 T0 E sg hA hB n i a w) (fun m a w hi => ?_) n.toNat a4 w4 ⟨0, by omega, by omega, hI⟩)
  obtain ⟨i, hm, hin, hI⟩ := hi
  by_cases hlt : (i : Int) < n
  · obtain ⟨oA, hgA⟩ := hss.hd (by omega)
    obtain ⟨oB, hgB⟩ := hss'.hd (by omega)
    obtain ⟨⟨o1, hr1⟩, hL0, hL1, hsh⟩ := hss.row i hlt
    obtain ⟨⟨o2, hr2⟩, _, _, hsh'⟩ := hss'.row i hlt
    have hge := gid_ge f i
    have hge' := gid_ge f' i
    let l : List (Nat × Nat) := [(2, hA), (3, hB), (21, gid f i), (22, gid f' i)]
    have a2 : lkN l 2 = some hA := by simp [l, lkN]
    have a3 : lkN l 3 = some hB := by simp [l, lkN]
    have a21 : lkN l 21 = some (gid f i) := by simp [l, lkN]
    have a22 : lkN l 22 = some (gid f' i) := by simp [l, lkN]
    have hal2 : ∀ p ∈ l, p.1 < 23 ∧ p.1 < 900 ∧ 900 ≤ p.2 := allC ⟨by simp, by simp, hA1.1⟩ (allC ⟨by simp, by simp, hB1.1⟩ (allC ⟨by simp, by simp, by simp only; omega⟩ (allC ⟨by simp, by simp, by simp only; omega⟩ all0)))
    refine wp_mono (stepG (body_ok (okEq (L i)) mixed 1 eqX (on2 14 true 26 false)) (eq_rd fops n i (L i) (hvw i 21 (L i)) (hvw i 22 (L i)) (R i) (R' i))
      (AllT.cons (decide_eq_true hlt) (AllT.cons (idx_ok hlt) (AllT.cons (idx_ok hlt) (AllT.cons (rowIs_ok (if_pos rfl)) (AllT.cons (idx_ok hlt) (AllT.cons (idx_ok hlt) (AllT.cons (rowIs_ok (if_pos rfl)) (AllT.cons (SlFloat32.shape_flat hsh') (AllT.cons (SlFloat32.shape_flat hsh)
        (AllT.cons (by unfold SlFloat32.okE'; rw [pB_iff.2 ⟨rfl, rfl, hL0, hL1, hsh, hsh'⟩]; simp) (AllT.cons (by rw [heq i hlt, SlFloat32.eqR_self]; rfl) AllT.nil)))))))))))
      hI.gm.mem l hal2 hI.gm.sn (allC (sl_in hI.s0 (by omega) (by omega) a2) (allC (sl_in hI.s1 (by omega) (by omega) a3) (allC hI.s5 all0))) hI.sz hI.dfr
      (allC ⟨hA, _, a2, hgA, Wk.hvw (by decide) (by decide) a21⟩ (allC ⟨hB, _, a3, hgB, Wk.hvw (by decide) (by decide) a22⟩ (allC ⟨gid f i, _, a21, hr1, Wk.flat (fun h => by cases h) (fun h => by cases h) (SlFloat32.shape_flat hsh)⟩ (allC ⟨gid f' i, _, a22, hr2, Wk.flat (fun h => by cases h) (fun h => by cases h) (SlFloat32.shape_flat hsh')⟩ all0))))
      (fun p hp q hq _ hr => ?_)) fun e a' w' hp => ?_
    · have hro : ∀ p ∈ [((2 : Nat), (⟨false, false, .rows 1 n (hvw i 21 (L i))⟩ : Seg)), (3, ⟨false, false, .rows 1 n (hvw i 22 (L i))⟩), (21, ⟨false, false, .rows 1 (L i) (R i)⟩), (22, ⟨false, false, .rows 1 (L i) (R' i)⟩)], p.2.rw = false := allC rfl (allC rfl (allC rfl (allC rfl all0)))
      rw [hro p hp, hro q hq] at hr
      rcases hr with hr | hr <;> cases hr
    obtain ⟨rfl, k1, k2, E', sg', k3, k4, ⟨p0, p1, p5, _⟩, _, k5⟩ := hp
    have k6 := k5 [] [] ⟨fun p hp => (by cases hp), fun p hp => (by cases hp), fun p hp => (by cases hp), allC (fun h => by cases h) (allC (fun h => by cases h) (allC (fun h => by cases h) (allC (fun h => by cases h) all0))), by rw [hI.gm.nil]; exact Ext.refl E⟩
    rw [hI.gm.nil] at k6
    refine .inl ⟨rfl, m - 1, by omega, i + 1, by omega, by omega, k1, k2, ⟨k6, hI.gm.sn, hI.gm.en⟩, sl_out p0 (k4 2 (.inl (by omega))) (by omega) (by omega) a2, sl_out p1 (k4 3 (.inl (by omega))) (by omega) (by omega) a3, ?_⟩
    rw [wrapN (by omega)] at p5
    exact p5
  · refine wp_mono (hI.gm.step (body_ok okNil mixed 1 _ (on1 14 false)) (eq_end fops n i) (AllT.cons (by rw [decide_eq_false hlt]; rfl) (AllT.cons rfl AllT.nil)) [(2, hA), (3, hB)] hal (allC (sl_in hI.s0 (by omega) (by omega) al2) (allC (sl_in hI.s1 (by omega) (by omega) al3) (allC hI.s5 all0))) hI.sz hI.dfr) fun e a' w' hp => ?_
    obtain ⟨rfl, hsz5, hd5, gm5, E5, he5, _⟩ := hp
    refine .inr ⟨by simp [exitOf], ?_⟩
    show (cR (cR (cR (bodyC eqSS)))).wp Try.prog _ a' w'
    refine wp_mono (gm5.step (body_ok okNil mixed 1 _ off) (eq_3 fops) (AllT.cons rfl AllT.nil) [] all0 all0 hsz5 hd5) fun e a6 w6 hp => ?_
    obtain ⟨rfl, hsz6, hd6, gm6, E6, he6, p4, _⟩ := hp
    exact ⟨hd6, _, results1 eq_res, _, rfl, p4, gm6⟩

/-- Memory without the first 'm' rows of a family. -/
def rmF (sg : Nat → Option Seg) (f : Nat) (m : Int) : Nat → Option Seg := fun j => if isF f j = true ∧ ((posF j : Nat) : Int) < m then none else sg j
structure MaI (w0 : World) (T0 : Nat → Nat → Prop) (E : EM) (sg : Nat → Option Seg) (hA f : Nat) (n : Int) (L : Nat → Int) (u : Int) (i : Nat) (a : Act) (w : World) : Prop where
  sz : a.tmps.size = maSS.ntmps
  dfr : a.defers = []
  gm : GM w0 T0 E (rmF sg f i) w
  s0 : RelV E (.c (.sl hA 0 1 (.s n) false)) (a.tmps.getD 0 undef)
  s1 : RelV E (.c (.int .i64 (.s (u + sumL L i)))) (a.tmps.getD 1 undef)
  s5 : RelV E (.c (.int .i64 (.s (i : Int)))) (a.tmps.getD 5 undef)
theorem maSS_call (gm : GM w0 T0 E sg w) (hss : SSof sg true hA f n L R) (hn0 : 0 ≤ n) (hn : n ≤ 1048576) (hA1 : 900 ≤ hA ∧ hA < 1000) (hf : f < 32) {u : Int} (hu0 : 0 ≤ u) (hu : u + sumL L n.toNat ≤ 50000000)
    {vA : Value} (hv : RelC E (.sl hA 0 1 (.s n) false) vA) :
    NextOK Try.prog ((callFunc 33 #[vA, .int .i64 u]).run Try.prog w) fun r w' => r = .int .i64 (u + sumL L n.toNat) ∧ GM w0 T0 E (rmF sg f n) w' := by
  refine call_body Try.func33 (by kernel_rfl) ma_shape (Nat.le_of_ble_eq_true (show Nat.ble 2 maSS.ntmps = true by kernel_rfl)) fun a hsz hd hargs => ?_
  have h0 : RelV E (.c (.sl hA 0 1 (.s n) false)) (a.tmps.getD 0 undef) := by rw [hargs]; exact hv
  have h1 : RelV E (.c (.int .i64 (.s u))) (a.tmps.getD 1 undef) := by rw [hargs]; rfl
  have al : lkN [(2, hA)] 2 = some hA := by simp [lkN]
  have hal : ∀ p ∈ [(2, hA)], p.1 < 10 ∧ p.1 < 900 ∧ 900 ≤ p.2 := allC ⟨by simp, by simp, hA1.1⟩ all0
  have hLn : ∀ p, p < n.toNat → 0 ≤ L p := fun p hp => (hss.row p (by omega)).2.1
  refine wp_seq (wp_mono (gm.step (body_ok okNil mixed 1 _ off) (ma_0 fops n u) AllT.nil [(2, hA)] hal (allC (sl_in h0 (by omega) (by omega) al) (allC h1 all0)) hsz hd) fun e a1 w1 hp => ?_)
  obtain ⟨rfl, hsz1, hd1, gm1, E1, he1, p0, p1, _⟩ := hp
  have h01 : RelV E (.c (.sl hA 0 1 (.s n) false)) (a1.tmps.getD 0 undef) := sl_out p0 (he1 2 (.inl (by omega))) (by omega) (by omega) al
  refine wp_seq (wp_seq (wp_mono (gm1.step (body_ok okNil mixed 1 _ off) (ma_1 fops n u) AllT.nil [(2, hA)] hal (allC (sl_in h01 (by omega) (by omega) al) (allC p1 all0)) hsz1 hd1) fun e a4 w4 hp => ?_))
  obtain ⟨rfl, hsz4, hd4, gm4, E4, he4, p0, p1, p5, _⟩ := hp
  have hrm0 : rmF sg f (0 : Nat) = sg := by funext j; unfold rmF; rw [if_neg (by omega)]
  have hI : MaI w0 T0 E sg hA f n L u 0 a4 w4 := ⟨hsz4, hd4, by rw [hrm0]; exact gm4, sl_out p0 (he4 2 (.inl (by omega))) (by omega) (by omega) al, by simp only [sumL, Int.add_zero]; exact p1, p5⟩
  refine wp_block (wp_loop_inv (fun m a w => ∃ (i : Nat), (m : Int) = n - i ∧ (i : Int) ≤ n ∧ MaI w0 T0 E sg hA f n L u i a w) (fun m a w hi => ?_) n.toNat a4 w4 ⟨0, by omega, by omega, hI⟩)
  obtain ⟨i, hm, hin, hI⟩ := hi
  by_cases hlt : (i : Int) < n
  · obtain ⟨oA, hgA⟩ := hss.hd (by omega)
    obtain ⟨⟨o1, hr1⟩, hL0, hL1, hsh⟩ := hss.row i hlt
    have hge := gid_ge f i
    have hsum := (sumL_le hLn i (by omega)).1
    have hmono := sumL_mono hLn n.toNat i (by omega) (Nat.le_refl _)
    have hgA' : rmF sg f i hA = some ⟨true, oA, .rows 1 n (hdr f L)⟩ := by
      unfold rmF isF
      rw [decide_eq_false (by omega : ¬ 1000 ≤ hA)]
      simp only [Bool.false_and, Bool.false_eq_true, false_and, if_false]
      exact hgA
    have hr1' : rmF sg f i (gid f i) = some ⟨true, o1, .rows 1 (L i) (R i)⟩ := by
      unfold rmF
      rw [pos_gid hf, if_neg (by omega)]
      exact hr1
    let l : List (Nat × Nat) := [(2, hA), (21, gid f i)]
    have a2 : lkN l 2 = some hA := by simp [l, lkN]
    have a21 : lkN l 21 = some (gid f i) := by simp [l, lkN]
    have hal2 : ∀ p ∈ l, p.1 < 22 ∧ p.1 < 900 ∧ 900 ≤ p.2 := allC ⟨by simp, by simp, hA1.1⟩ (allC ⟨by simp, by simp, by simp only; omega⟩ all0)
    have hne : hA ≠ gid f i := by omega
    refine wp_mono (stepG (body_ok (okMa (L i)) mixed 1 maX (on1 9 true)) (ma_rd fops n i (L i) (u + sumL L i) (hvw i 21 (L i)) (R i))
      (AllT.cons (decide_eq_true hlt) (AllT.cons (idx_ok hlt) (AllT.cons (idx_ok hlt) (AllT.cons (rowIs_ok (if_pos rfl)) (AllT.cons (SlFloat32.shape_flat hsh) (AllT.cons (SlFloat32.shape_flat (SlFloat32.marked_shape (SlFloat32.mkR_marked _ _ _))) (AllT.cons (pB_iff.2 ⟨rfl, hL0, hL1, by omega, by omega, hsh⟩) AllT.nil)))))))
      hI.gm.mem l hal2 hI.gm.sn (allC (sl_in hI.s0 (by omega) (by omega) a2) (allC hI.s1 (allC hI.s5 all0))) hI.sz hI.dfr
      (allC ⟨hA, _, a2, hgA', Wk.hvw (by decide) (by decide) a21⟩ (allC ⟨gid f i, _, a21, hr1', Wk.flat (fun _ => rfl) (fun h => by cases h) (SlFloat32.shape_flat hsh)⟩ all0))
      (allC (allC (fun h => absurd rfl h) (allC (fun _ _ => by rw [a2, a21]; simpa using hne) all0)) (allC (allC (fun _ _ => by rw [a2, a21]; simpa using Ne.symm hne) (allC (fun h => absurd rfl h) all0)) all0))) fun e a' w' hp => ?_
    obtain ⟨rfl, k1, k2, E', sg', k3, k4, ⟨p0, p1, p5, _⟩, ⟨q21, _⟩, k5⟩ := hp
    have e21 : E' 21 = E (gid f i) := (k4 21 (.inl (by omega))).trans (by unfold alE; rw [if_pos (by omega), a21])
    have hup : upE E E' [(gid f i, 21)] = E := by
      funext j
      unfold upE
      by_cases e : j = gid f i
      · subst e; simp only [lkN, if_true]; exact e21
      · simp only [lkN, if_neg e]
        split
        · rename_i hj; exact (hI.gm.en j hj).symm
        · rfl
    have k6 := k5 [(gid f i, 21)] [(gid f i, ⟨true, false, .rows 1 (L i) (SlFloat32.mkR fops (u + sumL L i) (L i) (R i))⟩)]
      ⟨allC ⟨21, _, by simp [lkN], q21, Wk.flat id id (SlFloat32.shape_flat (SlFloat32.marked_shape (SlFloat32.mkR_marked _ _ _))), .inl ⟨_, by simp [findS_cons]; rfl, fun _ => rfl, a21⟩⟩ all0,
       allC (by simp [findS_cons]) all0, allC (allC (fun _ => rfl) all0) all0, allC (fun h => by cases h) (allC (fun _ => ⟨gid f i, a21, by simp [lkN]⟩) all0), by rw [hup]; exact Ext.refl E⟩
    rw [hup] at k6
    refine .inl ⟨rfl, m - 1, by omega, i + 1, by omega, by omega, k1, k2, ⟨k6.sub fun j g hg => ?_, fun j g hg => ?_, hI.gm.en⟩, sl_out p0 (k4 2 (.inl (by omega))) (by omega) (by omega) a2, ?_, ?_⟩
    · unfold rmF at hg
      split at hg
      · cases hg
      · rename_i hc
        have hne : j ≠ gid f i := fun e => hc (by rw [e, isF_gid hf, pos_gid hf]; exact ⟨by simp, by omega⟩)
        unfold upS
        rw [findS_cons, if_neg hne, findS_nil]
        show rmF sg f i j = some g
        unfold rmF
        rw [if_neg (fun h => hc ⟨h.1, by omega⟩)]
        exact hg
    · unfold rmF at hg
      split at hg
      · cases hg
      · rename_i hc
        refine hI.gm.sn j g ?_
        unfold rmF
        rw [if_neg (fun h => hc ⟨h.1, by omega⟩)]
        exact hg
    · simp only [sumL]
      rw [show u + (sumL L i + L i) = u + sumL L i + 1 * L i by omega]
      exact p1
    · rw [wrapN (by omega)] at p5
      exact p5
  · have eN : (i : Int) = n := by omega
    refine wp_mono (hI.gm.step (body_ok okNil mixed 1 _ (on1 9 false)) (ma_end fops n i (u + sumL L i)) (AllT.cons (by rw [decide_eq_false hlt]; rfl) (AllT.cons rfl AllT.nil)) [(2, hA)] hal (allC (sl_in hI.s0 (by omega) (by omega) al) (allC hI.s1 (allC hI.s5 all0))) hI.sz hI.dfr) fun e a' w' hp => ?_
    obtain ⟨rfl, hsz5, hd5, gm5, E5, he5, p1, _⟩ := hp
    refine .inr ⟨by simp [exitOf], ?_⟩
    show (cR (cR (bodyC maSS))).wp Try.prog _ a' w'
    refine wp_mono (gm5.step (body_ok okNil mixed 1 _ off) (ma_2 fops (u + sumL L i)) (AllT.cons rfl AllT.nil) [] all0 (allC p1 all0) hsz5 hd5) fun e a6 w6 hp => ?_
    obtain ⟨rfl, hsz6, hd6, gm6, E6, he6, p4, _⟩ := hp
    have e1 : n.toNat = i := by omega
    refine ⟨hd6, _, results1 ma_res, _, rfl, by rw [e1]; exact p4, by rw [← eN]; exact gm6⟩
end
end
end Go.Proofs.Ytaoeigofmfpamaa
end

/- Loops in general: a search, a sum. Nothing is assumed. -/
section
namespace Go.Proofs.Ytaoeigofmfpamaa
open Go
section
variable {cx : Cx} {N : Nat} {lp : Nat → Option (List Ly → Top → Option Outs)} {x : Code} {nx0 mx : Nat} {sk : Sk}
/-- One round leads from 'p' to 'q'. -/
def Goes (cx : Cx) (N : Nat) (lp : Nat → Option (List Ly → Top → Option Outs)) (x : Code) (nx0 mx : Nat) (sk skE : Sk) (p : List LD) (k : Option XK) (q : List LD) : Prop :=
  ∃ ts ρ ob, (goL cx N ⟨ts, lp⟩ x nx0 mx sk ρ skE p = some (k, q, ob) ∨ ∃ j, goJ cx N ⟨ts, lp⟩ x j nx0 mx sk ρ skE p = some (k, q, ob)) ∧ AllT ob
theorem Goes.mk {skE : Sk} {p q : List LD} {k : Option XK} (ts : Nat → Option Bool) {ρ : List (Nat × Nat)} {ob : List Bool} (h : goL cx N ⟨ts, lp⟩ x nx0 mx sk ρ skE p = some (k, q, ob)) (ho : AllT ob) : Goes cx N lp x nx0 mx sk skE p k q := ⟨ts, ρ, ob, .inl h, ho⟩
theorem Goes.mkJ {skE : Sk} {p q : List LD} {k : Option XK} (ts : Nat → Option Bool) (j : Nat) {ρ : List (Nat × Nat)} {ob : List Bool} (h : goJ cx N ⟨ts, lp⟩ x j nx0 mx sk ρ skE p = some (k, q, ob)) (ho : AllT ob) : Goes cx N lp x nx0 mx sk skE p k q := ⟨ts, ρ, ob, .inr ⟨j, h⟩, ho⟩
theorem Goes.step {p q : List LD} (h : Goes cx N lp x nx0 mx sk sk p none q) {xk : XK} {skE : Sk} {pE : List LD} (hl : Loops cx N lp x nx0 mx sk q xk skE pE) : Loops cx N lp x nx0 mx sk p xk skE pE := by
  obtain ⟨ts, ρ, ob, h1 | ⟨j, h1⟩, h2⟩ := h
  · exact .step h1 h2 hl
  · exact .stepJ h1 h2 hl
theorem Goes.done {p q : List LD} {xk : XK} {skE : Sk} (h : Goes cx N lp x nx0 mx sk skE p (some xk) q) : Loops cx N lp x nx0 mx sk p xk skE q := by
  obtain ⟨ts, ρ, ob, h1 | ⟨j, h1⟩, h2⟩ := h
  · exact .done h1 h2
  · exact .doneJ h1 h2
/-- A search: all rounds say yes, or one says no. -/
theorem scan_loops {skE skR : Sk} {D : Int → List LD} {E R : List LD} {q : Int → Bool} {n : Int} {xE xR : XK}
    (h1 : ∀ k, 0 ≤ k → k < n → q k = true → Goes cx N lp x nx0 mx sk sk (D k) none (D (k + 1)))
    (h2 : ∀ k, 0 ≤ k → k < n → q k = false → Goes cx N lp x nx0 mx sk skR (D k) (some xR) R)
    (h3 : Goes cx N lp x nx0 mx sk skE (D n) (some xE) E) : ∀ (m : Nat) (k : Int), 0 ≤ k → k + m = n →
    (eqFrom q k m = true → Loops cx N lp x nx0 mx sk (D k) xE skE E) ∧ (eqFrom q k m = false → Loops cx N lp x nx0 mx sk (D k) xR skR R) := by
  intro m
  induction m with
  | zero =>
    intro k hk hkn
    have e : k = n := by omega
    subst e
    exact ⟨fun _ => h3.done, fun h => by cases h⟩
  | succ m ih =>
    intro k hk hkn
    obtain ⟨i1, i2⟩ := ih (k + 1) (by omega) (by omega)
    have hE : eqFrom q k (m + 1) = bif q k then eqFrom q (k + 1) m else false := rfl
    rw [hE]
    cases hq : q k with
    | true => exact ⟨fun h => (h1 k hk (by omega) hq).step (i1 h), fun h => (h1 k hk (by omega) hq).step (i2 h)⟩
    | false => exact ⟨fun h => (by cases h), fun _ => (h2 k hk (by omega) hq).done⟩
/-- 'f' done 'm' times, from 'k' on. -/
def foldFrom {S : Type} (f : Int → S → S) : Int → Nat → S → S
  | _, 0, s => s
  | k, m + 1, s => foldFrom f (k + 1) m (f k s)
theorem fold_loops {S : Type} {skE : Sk} {D : Int → S → List LD} {E : S → List LD} {f : Int → S → S} {n : Int} {xE : XK}
    (h1 : ∀ k s, 0 ≤ k → k < n → Goes cx N lp x nx0 mx sk sk (D k s) none (D (k + 1) (f k s)))
    (h3 : ∀ s, Goes cx N lp x nx0 mx sk skE (D n s) (some xE) (E s)) : ∀ (m : Nat) (k : Int) (s : S), 0 ≤ k → k + m = n →
    Loops cx N lp x nx0 mx sk (D k s) xE skE (E (foldFrom f k m s)) := by
  intro m
  induction m with
  | zero =>
    intro k s hk hkn
    have e : k = n := by omega
    subst e
    exact (h3 s).done
  | succ m ih =>
    intro k s hk hkn
    exact (h1 k s hk (by omega)).step (ih (k + 1) (f k s) (by omega) (by omega))
end
theorem eqFrom_congr {q q' : Int → Bool} : ∀ (m : Nat) (k : Int), (∀ j, k ≤ j → j < k + m → q j = q' j) → eqFrom q k m = eqFrom q' k m
  | 0, _, _ => rfl
  | m + 1, k, h => by
    show (bif q k then eqFrom q (k + 1) m else false) = (bif q' k then eqFrom q' (k + 1) m else false)
    rw [h k (by omega) (by omega), eqFrom_congr m (k + 1) (fun j h1 h2 => h j (by omega) (by omega))]
theorem eqFrom_at {q : Int → Bool} : ∀ {m : Nat} {k : Int}, eqFrom q k m = true → ∀ j, k ≤ j → j < k + m → q j = true
  | 0, k, _, j, h1, h2 => by omega
  | m + 1, k, h, j, h1, h2 => by
    have h' : (bif q k then eqFrom q (k + 1) m else false) = true := h
    cases hq : q k with
    | false => rw [hq] at h'; cases h'
    | true =>
      rw [hq] at h'
      by_cases e : j = k
      · rw [e]; exact hq
      · exact eqFrom_at (q := q) (m := m) (k := k + 1) h' j (by omega) (by omega)
theorem foldFrom_congr {S : Type} {f g : Int → S → S} : ∀ (m : Nat) (k : Int) (s : S), (∀ j s, k ≤ j → j < k + m → f j s = g j s) → foldFrom f k m s = foldFrom g k m s
  | 0, _, _, _ => rfl
  | m + 1, k, s, h => by
    show foldFrom f (k + 1) m (f k s) = foldFrom g (k + 1) m (g k s)
    rw [h k s (by omega) (by omega), foldFrom_congr m (k + 1) _ (fun j t h1 h2 => h j t (by omega) (by omega))]
theorem AllT.one' {b : Bool} (h : b = true) : AllT [b] := AllT.cons h AllT.nil
theorem AllT.iffApp {l m : List Bool} : AllT (l ++ m) ↔ AllT l ∧ AllT m := ⟨fun h => h.append, fun h => AllT.app h.1 h.2⟩
/-- Within bounds. -/
noncomputable def bd (n k : Int) : Bool := decide (0 ≤ k ∧ k < n)
theorem bd_ok {n k : Int} (h0 : 0 ≤ k) (h1 : k < n) : bd n k = true := by unfold bd; simp; omega
noncomputable def hints (l : List (Nat × Bool)) (t : Nat) : Option Bool := List.rec (motive := fun _ => Option Bool) none (fun p _ ih => bif Nat.beq t p.1 then some p.2 else ih) l
end Go.Proofs.Ytaoeigofmfpamaa
end

/- Whether all numbers of a list are finite, with any number of them. Nothing is assumed. -/
section
namespace Go.Proofs.Ytaoeigofmfpamaa.Fnr
open Go
noncomputable section
def LA : List (Nat × CS) := [(96, absS)]
set_option maxRecDepth 100000 in
theorem okLA : AllOK Try.prog LA := ⟨cAbs, trivial⟩
def cxA (O : FOps) : Cx := ⟨Try.prog, O, orcN Try.prog O LA 8⟩
theorem shF {ts : List KK} {row : Int → List SC} (h : Shape ts row) : flatR row = true := by rw [h]; exact rowK_flat _ _ _
def skR (t : Nat) (nx : Nat) : Sk := ⟨[(t, .c (.boolc false))], [], nx⟩
noncomputable def NFi : Nat := Try.f58.ntmps
noncomputable def Fik : Sk := ⟨[(5, .c (.sl 1 0 1 false)), (6, .c (.int .i64)), (7, .c (.int .i64))], [(1, ⟨false, false, .rows 1⟩)], 2⟩
noncomputable def Fie : Sk := ⟨[], [], 2⟩
noncomputable def FiD (F : Nat → Int → Nat) (G : Nat → Int → Int) (n : Int) (k : Int) : List LD := [.i n, .i n, .i k] ++ [.i n, .r (SlFloat32.Row F G)]
noncomputable def Fig (O : FOps) (u v : Bool) (s : Sk) (F : Nat → Int → Nat) (G : Nat → Int → Int) (n : Int) (k : Int) : Option (Option XK × List LD × List Bool) := goL (cxA O) NFi ⟨hints [(8, u), (18, v)], fun _ => none⟩ (bodyOf Try.f58 2) 2 60 Fik [] s (FiD F G n k)
set_option maxRecDepth 100000 in
theorem Fia (O : FOps) (F : Nat → Int → Nat) (G : Nat → Int → Int) (n : Int) (k : Int) : Fig O true false Fik F G n k = some (none, FiD F G n (IntKind.i64.wrap (k + 1)), [decide (k < n)] ++ [bd n k, bd n k] ++ [!infI O (F 0 k)] ++ [flatR (SlFloat32.Row F G)]) := by kernel_rfl
set_option maxRecDepth 100000 in
theorem Fib (O : FOps) (F : Nat → Int → Nat) (G : Nat → Int → Int) (n : Int) (k : Int) : Fig O true true (skR 2 2) F G n k = some (some .ret, [], [decide (k < n)] ++ [bd n k, bd n k] ++ [infI O (F 0 k)]) := by kernel_rfl
set_option maxRecDepth 100000 in
theorem Fic (O : FOps) (F : Nat → Int → Nat) (G : Nat → Int → Int) (n : Int) (k : Int) : Fig O false true Fie F G n k = some (some (.exit 0), [], [!decide (k < n)]) := by kernel_rfl
theorem Fil (F : Nat → Int → Nat) (G : Nat → Int → Int) (n : Int) (hn : n ≤ 1048576) : ∀ (m : Nat) (k : Int), 0 ≤ k → k + m = n →
    (eqFrom (fun k => isNum (F 0 k)) k m = true → Loops (cxA fops) NFi (fun _ => none) (bodyOf Try.f58 2) 2 60 Fik (FiD F G n k) (.exit 0) Fie ([])) ∧
    (eqFrom (fun k => isNum (F 0 k)) k m = false → Loops (cxA fops) NFi (fun _ => none) (bodyOf Try.f58 2) 2 60 Fik (FiD F G n k) .ret (skR 2 2) []) := by
  refine scan_loops (D := FiD F G n) (n := n) (fun k hk hlt hq => ?_) (fun k hk hlt hq => ?_) ?_
  · have r := Fia fops F G n k
    rw [wrap_succ hk (by omega)] at r
    have hq' : isNum (F 0 k) = true := hq
    exact .mk _ (ρ := []) r (AllT.app (AllT.app (AllT.app (AllT.one' (by simpa using hlt)) (AllT.cons (bd_ok hk hlt) (AllT.one' (bd_ok hk hlt)))) (AllT.one' (by rw [infI_eq, hq']; rfl))) (AllT.one' (rowK_flat _ _ _)))
  · have hq' : isNum (F 0 k) = false := hq
    exact .mk _ (ρ := []) (Fib fops F G n k) (AllT.app (AllT.app (AllT.one' (by simpa using hlt)) (AllT.cons (bd_ok hk hlt) (AllT.one' (bd_ok hk hlt)))) (AllT.one' (by rw [infI_eq, hq']; rfl)))
  · exact .mk _ (ρ := []) (Fic fops F G n n) (AllT.one' (by simp))
def FiP (l2 k n N : Int) (row : Int → List SC) : Prop := l2 = n ∧ k = 0 ∧ N = n ∧ 0 ≤ n ∧ n ≤ 1048576 ∧ Shape SlFloat32.ts row
noncomputable def FiF : List LD → Option (XO × List Bool)
  | [.i n, .i l2, .i k, .i N, .r row] => some ([(.s (!eqFrom (fun k => isNum (datF row 0 k)) 0 n.toNat), .ret, (skR 2 2), []), (.t, .exit 0, Fie, [])], [pB (FiP l2 k n N row)])
  | _ => none
noncomputable def FiL (O : FOps) : List Ly → Top → Option Outs := orIter (cxA O) NFi (bodyOf Try.f58 2) (loopL NFi 2 60 Fik [] FiF)
set_option maxRecDepth 100000 in
theorem Fio : CodeOK Try.prog NFi (.loop (bodyOf Try.f58 2)) (FiL fops) := by
  refine orIter_ok (l := LA) okLA mixed 8 (loopL_ok (cx := cxA fops) (lp := fun _ => none) (fun ts => body_ok (l := LA) okLA mixed 8 _ ts) fun p r hr hob => ?_)
  unfold FiF at hr
  split at hr <;> cases hr
  rename_i n l2 k N row
  obtain ⟨e0, e1, e2, h0, hm, s0⟩ := pB_iff.1 hob.head
  rw [e0, e1, e2]
  obtain ⟨h1, h2⟩ := Fil (datF row) (datG row) n hm (n).toNat 0 (Int.le_refl _) (by show (0 : Int) + ((n).toNat : Nat) = _; omega)
  unfold FiD at h1 h2
  rw [← (show row = SlFloat32.Row (datF row) (datG row) from s0)] at h1 h2
  cases hq : eqFrom (fun k => isNum (datF row 0 k)) 0 (n).toNat with
  | true => exact ⟨_, _, _, by simp [pickX, SB.val], h1 hq⟩
  | false => exact ⟨_, _, _, by simp [pickX, SB.val], h2 hq⟩
/-- All numbers of a list are finite. -/
def finN (nm : Nat → Bool) (n : Int) (row : Int → List SC) : Bool := bif !eqFrom (fun k => nm (datF row 0 k)) 0 n.toNat then false else true
def frH (nm : Nat → Bool) : CS := fun base args rd => match args with
  | [.c (.sl i o es (.s n) _)] => match rd with
    | [(j, ⟨_, _, .rows st N row⟩)] => match Nat.beq base 2 && (Nat.beq i 1 && (Nat.beq o 0 && (Nat.beq es 1 && (Nat.beq j 1 && Nat.beq st 1)))) with
      | true => some ⟨.c (.bool (.s (finN nm n row))), [], 60, [SlFloat32.okN n N row]⟩
      | false => none
    | _ => none
  | _ => none
set_option maxRecDepth 100000 in
theorem FiC : CallOK Try.prog 58 (inl (cxA fops) Try.f58 ⟨fun _ => none, lpOf [(2, FiL fops)]⟩) := by
  have hb : Try.f58.body.isSome = true := by kernel_rfl
  obtain ⟨c, hc⟩ := Option.isSome_iff_exists.1 hb
  have h1 : (match Try.f58.body with | some c => onceB (loopsIn c) && (match loopAt 2 (loopsIn c) with | some _ => true | none => false) | none => false) = true := by kernel_rfl
  rw [hc] at h1
  simp only [Bool.and_eq_true] at h1
  exact inlL_of (l := LA) (ls := [(2, FiL fops)]) okLA mixed 8 Try.func58 (by kernel_rfl) (fun _ => none) hc h1.1 ⟨⟨_, bodyOf_at hc h1.2, Fio⟩, trivial⟩
set_option maxRecDepth 100000 in
theorem FiR (O : FOps) (f w o : Bool) (n N : Int) (row : Int → List SC) : roS (inl (cxA O) Try.f58 ⟨fun _ => none, lpOf [(2, FiL O)]⟩) 2 [.c (.sl 1 0 1 (.s n) f)] [(1, ⟨w, o, .rows 1 N row⟩)] =
    some ⟨.c (.bool (.s (finN isNum n row))), [], 60, [flatR row, pB (FiP n 0 n N row)]⟩ := by kernel_rfl
def frS (nm : Nat → Bool) : CS := orS (canS (frH nm)) (gQ [.s 1] (finG nm))
set_option maxRecDepth 100000 in
theorem cFr : CallOK Try.prog 58 (frS isNum) :=
  (CallOK.hand (H := frH isNum) FiC.ro fun b args rd e h hob => by
    unfold frH at h
    split at h <;> try (cases h; done)
    rename_i i o es n f
    split at h <;> try (cases h; done)
    rename_i j w p st N row
    split at h <;> cases h
    rename_i hc
    simp only [Bool.and_eq_true, beqN] at hc
    obtain ⟨rfl, rfl, rfl, rfl, rfl, rfl⟩ := hc
    obtain ⟨e, h0, hm, hs⟩ := pB_iff.1 hob.head
    subst e
    exact ⟨_, FiR fops f w p N N row, AllT.cons (shF hs) (AllT.one' (pB_iff.2 ⟨rfl, rfl, rfl, h0, hm, hs⟩))⟩).can.or cFin
end
end Go.Proofs.Ytaoeigofmfpamaa.Fnr
end

/- Whether all numbers of a list are finite: spec.l03Finites. Nothing is assumed. -/
section
namespace Go.Proofs.Ytaoeigofmfpamaa.Fns
open Go
noncomputable section
noncomputable def LN (nm : Nat → Bool) : List (Nat × CS) := [(67, gS (fin1G nm))]
set_option maxRecDepth 100000 in
theorem okLN : AllOK Try.prog (LN isNum) := ⟨cFinL, trivial⟩
noncomputable def cxN (O : FOps) (nm : Nat → Bool) : Cx := ⟨Try.prog, O, orcN Try.prog O (LN nm) 8⟩
noncomputable def rdR (t nx : Nat) : Sk := ⟨[(t, .c (.boolc false))], [], nx⟩
noncomputable def all1 (q : Nat → Bool) (n : Int) (row : Int → List SC) : Bool := eqFrom (fun k => q (datF row 0 k)) 0 n.toNat

/-! ### spec.l03Finites -/
noncomputable def NFs : Nat := Try.f54.ntmps
noncomputable def kFs : Sk := ⟨[(0, .c (.sl 1 0 1 false)), (3, .c (.int .i64))], [(1, ⟨false, false, .rows 1⟩)], 2⟩
noncomputable def eFs : Sk := ⟨[], [], 2⟩
noncomputable def DFs (F : Nat → Int → Nat) (G : Nat → Int → Int) (n : Int)  (k : Int) : List LD := [.i n, .i k] ++ [.i n, .r (SlFloat32.Row F G)]
noncomputable def gFs (O : FOps) (nm : Nat → Bool) (u v : Bool) (s : Sk) (F : Nat → Int → Nat) (G : Nat → Int → Int) (n : Int)  (k : Int) : Option (Option XK × List LD × List Bool) := goL (cxN O nm) NFs ⟨hints [(7, u), (15, v)], fun _ => none⟩ (bodyOf Try.f54 2) 2 60 kFs [] s (DFs F G n  k)
set_option maxRecDepth 100000 in
theorem aFs (O : FOps) (nm : Nat → Bool) (F : Nat → Int → Nat) (G : Nat → Int → Int) (n : Int)  (k : Int) : gFs O nm true false kFs F G n  k = some (none, DFs F G n  (IntKind.i64.wrap (k + 1)), [decide (k < n)] ++ [bd n k, bd n k] ++ [!!nm (F 0 k)] ++ [flatR (SlFloat32.Row F G)]) := by kernel_rfl
set_option maxRecDepth 100000 in
theorem bFs (O : FOps) (nm : Nat → Bool) (F : Nat → Int → Nat) (G : Nat → Int → Int) (n : Int)  (k : Int) : gFs O nm true true (rdR 2 2) F G n  k = some (some .ret, [], [decide (k < n)] ++ [bd n k, bd n k] ++ [!nm (F 0 k)]) := by kernel_rfl
set_option maxRecDepth 100000 in
theorem cFs (O : FOps) (nm : Nat → Bool) (F : Nat → Int → Nat) (G : Nat → Int → Int) (n : Int)  (k : Int) : gFs O nm false true eFs F G n  k = some (some (.exit 0), [], [!decide (k < n)]) := by kernel_rfl
theorem lFs (F : Nat → Int → Nat) (G : Nat → Int → Int) (n : Int)  (hn : n ≤ 1048576) : ∀ (m : Nat) (k : Int), 0 ≤ k → k + m = n →
    (eqFrom (fun k => isNum (F 0 k)) k m = true → Loops (cxN fops isNum) NFs (fun _ => none) (bodyOf Try.f54 2) 2 60 kFs (DFs F G n  k) (.exit 0) eFs []) ∧
    (eqFrom (fun k => isNum (F 0 k)) k m = false → Loops (cxN fops isNum) NFs (fun _ => none) (bodyOf Try.f54 2) 2 60 kFs (DFs F G n  k) .ret (rdR 2 2) []) := by
  refine scan_loops (D := DFs F G n ) (n := n) (fun k hk hlt hq => ?_) (fun k hk hlt hq => ?_) ?_
  · have r := aFs fops isNum F G n  k
    rw [wrap_succ hk (by omega)] at r
    exact .mk _ (ρ := []) r (AllT.app (AllT.app (AllT.app (AllT.one' (by simpa using hlt)) (AllT.cons (bd_ok hk hlt) (AllT.one' (bd_ok hk hlt)))) (AllT.one' (by rw [hq]; rfl))) (AllT.one' (rowK_flat _ _ _)))
  · exact .mk _ (ρ := []) (bFs fops isNum F G n  k) (AllT.app (AllT.app (AllT.one' (by simpa using hlt)) (AllT.cons (bd_ok hk hlt) (AllT.one' (bd_ok hk hlt)))) (AllT.one' (by rw [hq]; rfl)))
  · exact .mk _ (ρ := []) (cFs fops isNum F G n  n) (AllT.one' (by simp))
def PFs (n k N : Int) (row : Int → List SC) : Prop := k = 0 ∧ N = n ∧ 0 ≤ n ∧ n ≤ 1048576 ∧ Shape SlFloat32.ts row
noncomputable def FFs (O : FOps) (nm : Nat → Bool) : List LD → Option (XO × List Bool)
  | [.i n, .i k, .i N, .r row] => some ([(.s (!all1 (fun x => nm x) n row), .ret, (rdR 2 2), []), (.t, .exit 0, eFs, [])], [pB (PFs n k N row)])
  | _ => none
noncomputable def LFs (O : FOps) (nm : Nat → Bool) : List Ly → Top → Option Outs := orIter (cxN O nm) NFs (bodyOf Try.f54 2) (loopL NFs 2 60 kFs [] (FFs O nm))
set_option maxRecDepth 100000 in
theorem oFs : CodeOK Try.prog NFs (.loop (bodyOf Try.f54 2)) (LFs fops isNum) := by
  refine orIter_ok (l := LN isNum) okLN mixed 8 (loopL_ok (cx := cxN fops isNum) (lp := fun _ => none) (fun ts => body_ok (l := LN isNum) okLN mixed 8 _ ts) fun p r hr hob => ?_)
  unfold FFs at hr
  split at hr <;> cases hr
  rename_i n k N row
  obtain ⟨e1, e2, h0, hm, s0⟩ := pB_iff.1 hob.head
  rw [e1, e2]
  obtain ⟨h1, h2⟩ := lFs (datF row) (datG row) n  hm n.toNat 0 (Int.le_refl _) (by omega)
  unfold DFs at h1 h2
  rw [← (show row = SlFloat32.Row (datF row) (datG row) from s0)] at h1 h2
  cases hq : eqFrom (fun k => isNum (datF row 0 k)) 0 n.toNat with
  | true => exact ⟨_, _, _, by simp [pickX, SB.val, all1, hq], h1 hq⟩
  | false => exact ⟨_, _, _, by simp [pickX, SB.val, all1, hq], h2 hq⟩
set_option maxRecDepth 100000 in
theorem CFs : CallOK Try.prog 54 (inl (cxN fops isNum) Try.f54 ⟨fun _ => none, lpOf [(2, LFs fops isNum)]⟩) := by
  have hb : Try.f54.body.isSome = true := by kernel_rfl
  obtain ⟨c, hc⟩ := Option.isSome_iff_exists.1 hb
  have h1 : (match Try.f54.body with | some c => onceB (loopsIn c) && (match loopAt 2 (loopsIn c) with | some _ => true | none => false) | none => false) = true := by kernel_rfl
  rw [hc] at h1
  simp only [Bool.and_eq_true] at h1
  exact inlL_of (l := LN isNum) (ls := [(2, LFs fops isNum)]) okLN mixed 8 Try.func54 (by kernel_rfl) (fun _ => none) hc h1.1 ⟨⟨_, bodyOf_at hc h1.2, oFs⟩, trivial⟩
set_option maxRecDepth 100000 in
theorem rFs (O : FOps) (nm : Nat → Bool) (f1 w1 o1 : Bool) (n N : Int) (row : Int → List SC) : roS (inl (cxN O nm) Try.f54 ⟨fun _ => none, lpOf [(2, LFs O nm)]⟩) 2 [.c (.sl 1 0 1 (.s n) f1)] [(1, ⟨w1, o1, .rows 1 N row⟩)] = some ⟨.c (.bool (.s (bif !all1 (fun x => nm x) n row then false else true))), [], 60, [flatR row, pB (PFs n 0 N row)]⟩ := by kernel_rfl
set_option maxRecDepth 100000 in
theorem tFs : CallOK Try.prog 54 (canS (Fnr.frH isNum)) := CallOK.can (CallOK.hand (H := Fnr.frH isNum) CFs.ro fun b args rd e h hob => by
  unfold Fnr.frH at h
  split at h <;> try (cases h; done)
  rename_i i o es n f
  split at h <;> try (cases h; done)
  rename_i j w p st N row
  split at h <;> cases h
  rename_i hc
  simp only [Bool.and_eq_true, beqN] at hc
  obtain ⟨rfl, rfl, rfl, rfl, rfl, rfl⟩ := hc
  obtain ⟨e, h0, hm, hs⟩ := pB_iff.1 hob.head
  subst e
  exact ⟨_, rFs fops isNum f w p N N row, AllT.cons (SlFloat32.shape_flat hs) (AllT.one' (pB_iff.2 ⟨rfl, rfl, h0, hm, hs⟩))⟩)
end
end Go.Proofs.Ytaoeigofmfpamaa.Fns
end

/- SolveHeats' pieces (the program's own). Nothing is assumed. -/
section
namespace Go.Proofs.Ytaoeigofmfpamaa
open Go
noncomputable section
noncomputable abbrev ihF : Func := Try.f31
noncomputable def ihB : Code := bodyC ihF
noncomputable def c2 : Code := cR (cR ihB)
noncomputable def c4 : Code := cR (cR c2)
noncomputable def c5 : Code := cR c4
noncomputable def c6 : Code := cR c5
noncomputable def c7 : Code := cR c6
noncomputable def jB : Code := cB (cB (cR (cL c4)))
noncomputable def jK : Code := cB (cB (cR (cL c6)))
noncomputable def BK : Code := cB (cL (cR (cR jK)))
noncomputable def bk2 : Code := cR (cR BK)
noncomputable def jP : Code := cB (cB (cR (cL bk2)))
noncomputable def bk3 : Code := cR bk2
noncomputable def bk4 : Code := cR bk3
noncomputable def bk5 : Code := cR bk4
noncomputable def bk6 : Code := cR bk5
noncomputable def jE : Code := cB (cB (cR bk6))
noncomputable def BE : Code := cB (cL (cR (cR jE)))
noncomputable def be2 : Code := cR (cR BE)
noncomputable def be3 : Code := cR be2
noncomputable def jJ : Code := cB (cB (cR (cL be3)))
noncomputable def c8 : Code := cR c7
noncomputable def jO : Code := cB (cB (cR (cL c8)))
noncomputable def c9 : Code := cR c8
set_option maxRecDepth 100000 in
theorem ih_shape : ihF.body = some (.seq (cL ihB) (.seq (cL (cR ihB)) (.seq (cL c2) (.seq (cL (cR c2)) (.seq (.seq (cL (cL c4)) (.block 0 (.loop jB))) (.seq (cL c5) (.seq (.seq (cL (cL c6)) (.block 2 (.loop jK))) (.seq (cL c7) (.seq (.seq (cL (cL c8)) (.block 10 (.loop jO))) (.seq (cL c9) (cR c9))))))))))) := by kernel_rfl
set_option maxRecDepth 100000 in
theorem jk_shape : jK = .seq (cL jK) (.seq (.cond (.tmp 66) .skip (.exit 2)) (.seq (.block 3 BK) (cR (cR (cR jK))))) := by kernel_rfl
set_option maxRecDepth 100000 in
theorem bk_shape : BK = .seq (cL BK) (.seq (cL (cR BK)) (.seq (.seq (cL (cL bk2)) (.block 4 (.loop jP))) (.seq (cL bk3) (.seq (cL bk4) (.seq (cL bk5) (.seq (cL bk6) (.block 6 (.loop jE)))))))) := by kernel_rfl
set_option maxRecDepth 100000 in
theorem je_shape : jE = .seq (cL jE) (.seq (.cond (.tmp 131) .skip (.exit 6)) (.seq (.block 7 BE) (cR (cR (cR jE))))) := by kernel_rfl
set_option maxRecDepth 100000 in
theorem be_shape : BE = .seq (cL BE) (.seq (cL (cR BE)) (.seq (cL be2) (.seq (.seq (cL (cL be3)) (.block 8 (.loop jJ))) (cR be3)))) := by kernel_rfl
/-- A row of floats. -/
noncomputable def fr (x : Int → Nat) (j : Int) : List SC := [.flt .f32 (x j)]
noncomputable def LIs (nm : Nat → Bool) : List (Nat × CS) := [(58, canS (Fnr.frH nm))]
noncomputable abbrev sI (i : Nat) (n : Int) : SV := .c (.sl i 0 1 (.s n) false)
noncomputable abbrev sF (i : Nat) (n : Int) : SV := .c (.sl i 0 1 (.s n) true)
noncomputable abbrev iI (n : Int) : SV := .c (.int .i64 (.s n))
noncomputable abbrev hI (k : Nat) (i : Nat) (m : Int) : Nat × CS := (1000000 + k, hntS (hd1 i m))
noncomputable def gate (n m : Int) (b : Bool) : Bool := bif decide (n < 1) then true else (bif decide (8 < n) then true else (bif !decide (m = n) then true else b))
noncomputable def gate1 (n l : Int) (b : Bool) : Bool := bif !decide (l = n) then true else b
noncomputable abbrev bI (n k : Int) : Bool := decide (0 ≤ k ∧ k < n)
noncomputable abbrev roG (n : Int) (row : Int → List SC) : Seg := ⟨false, false, .rows 1 n row⟩
set_option maxRecDepth 100000 in
theorem i0 (O : FOps) (n m : Int) : runV (cxA O []) ihF.ntmps ⟨off, fun _ => none⟩ (cL ihB) [(0, sI 2 n), (1, sI 3 m)] [] 10 0 [0, 1] [] =
    some (none, [sI 2 n, sI 3 m], [], []) := by kernel_rfl
set_option maxRecDepth 100000 in
theorem i1 (O : FOps) (n m : Int) : runV (cxA O []) ihF.ntmps ⟨off, fun _ => none⟩ (cL (cR ihB)) [(0, sI 2 n), (1, sI 3 m)] [] 10 0 [0, 1, 6] [] =
    some (none, [sI 2 n, sI 3 m, iI n], [], []) := by kernel_rfl
set_option maxRecDepth 100000 in
theorem i2t (O : FOps) (nm : Nat → Bool) (n m : Int) (row : Int → List SC) : runV (cxA O (LIs nm)) ihF.ntmps ⟨on1 37 true, fun _ => none⟩ (cL c2) [(0, sI 2 n), (1, sI 3 m), (6, iI n)] [(3, roG m row)] 10 0 [4, 5] [] =
    some (some .ret, [.c (.sl 0 0 0 (.c 0) false), .c (.int .i64 (.c 2))], [], [gate n m (flatR row), gate n m (SlFloat32.okN m m row), gate n m (!Fnr.finN nm m row), true]) := by kernel_rfl
set_option maxRecDepth 100000 in
theorem i2f (O : FOps) (nm : Nat → Bool) (n m : Int) (row : Int → List SC) : runV (cxA O (LIs nm)) ihF.ntmps ⟨on1 37 false, fun _ => none⟩ (cL c2) [(0, sI 2 n), (1, sI 3 m), (6, iI n)] [(3, roG m row)] 10 0 [0, 1, 6] [] =
    some (none, [sI 2 n, sI 3 m, iI n], [], [gate n m (flatR row), gate n m (SlFloat32.okN m m row), !gate n m (!Fnr.finN nm m row)]) := by kernel_rfl
set_option maxRecDepth 100000 in
theorem i4 (O : FOps) (n m : Int) : runV (cxA O []) ihF.ntmps ⟨off, fun _ => none⟩ (cL (cR c2)) [(0, sI 2 n), (1, sI 3 m), (6, iI n)] [] 10 0 [0, 1, 6, 7] [10] =
    some (none, [sI 2 n, sI 3 m, iI n, .c (.sl 10 0 1 (.c 0) true)], [some ⟨true, true, .cells []⟩], []) := by kernel_rfl
set_option maxRecDepth 100000 in
theorem i5 (O : FOps) (n m : Int) : runV (cxA O []) ihF.ntmps ⟨off, fun _ => none⟩ (cL (cL c4)) [(0, sI 2 n), (1, sI 3 m), (6, iI n), (7, sF 4 0)] [] 10 0 [1, 6, 7, 39, 40, 41] [] =
    some (none, [sI 3 m, iI n, sF 4 0, sI 2 n, iI n, .c (.int .i64 (.c 0))], [], []) := by kernel_rfl
noncomputable def lB (nm : Nat → Bool) (m : Int) : List (Nat × CS) := hI 43 21 m :: LIs nm
set_option maxRecDepth 100000 in
theorem bRd (O : FOps) (nm : Nat → Bool) (n m i l : Int) (hdA row hdT : Int → List SC) : runV (cxA O (lB nm l)) ihF.ntmps ⟨on2 42 true 53 false, fun _ => none⟩ jB [(1, sI 3 m), (6, iI n), (7, sF 4 i), (39, sI 2 n), (40, iI n), (41, iI i)]
    [(2, roG n hdA), (4, ⟨true, true, .rows 1 i hdT⟩), (21, roG l row)] 22 0 [1, 6, 7, 39, 40, 41] [81, 83] =
    some (none, [sI 3 m, iI n, sF 83 (i + 1), sI 2 n, iI n, iI (IntKind.i64.wrap (i + 1))], [some ⟨true, true, .rows 1 l row⟩, some ⟨true, true, .rows 1 (i + 1) (fun j => bif decide (j < i) then hdT j else [.sl 81 0 1 (.s l) true])⟩],
      [decide (i < n), decide (0 ≤ i ∧ i < n), decide (0 ≤ i ∧ i < n), rowIs hdA i (hd1 21 l), gate1 n l (flatR row), gate1 n l (SlFloat32.okN l l row), !gate1 n l (!Fnr.finN nm l row), decide (0 ≤ l ∧ l ≤ l ∧ l ≤ 1000000), decide (0 ≤ i ∧ i ≤ i ∧ i ≤ 999999)]) := by kernel_rfl
set_option maxRecDepth 100000 in
theorem bBad (O : FOps) (nm : Nat → Bool) (n i l : Int) (hdA row : Int → List SC) : runV (cxA O (lB nm l)) ihF.ntmps ⟨on2 42 true 53 true, fun _ => none⟩ jB [(6, iI n), (39, sI 2 n), (40, iI n), (41, iI i)]
    [(2, roG n hdA), (21, roG l row)] 22 0 [4, 5] [] =
    some (some .ret, [.c (.sl 0 0 0 (.c 0) false), .c (.int .i64 (.c 2))], [],
      [decide (i < n), decide (0 ≤ i ∧ i < n), decide (0 ≤ i ∧ i < n), rowIs hdA i (hd1 21 l), gate1 n l (flatR row), gate1 n l (SlFloat32.okN l l row), gate1 n l (!Fnr.finN nm l row), true]) := by kernel_rfl
set_option maxRecDepth 100000 in
theorem bEnd (O : FOps) (n m i : Int) : runV (cxA O []) ihF.ntmps ⟨on1 42 false, fun _ => none⟩ jB [(1, sI 3 m), (6, iI n), (7, sF 4 i), (39, sI 2 n), (40, iI n), (41, iI i)]
    [] 22 0 [1, 6, 7] [] =
    some (some (.exit 0), [sI 3 m, iI n, sF 4 i], [], [!decide (i < n), true]) := by kernel_rfl
set_option maxRecDepth 100000 in
theorem i12 (O : FOps) (n m : Int) (x : Int → Nat) : runV (cxA O []) ihF.ntmps ⟨off, fun _ => none⟩ (cL c5) [(1, sI 3 m), (6, iI n), (7, sF 4 n)] [(3, roG m (fr x))] 10 0 [6, 7, 10] [11] =
    some (none, [iI n, sF 4 n, sF 11 m], [some ⟨true, true, .rows 1 m (fr x)⟩], [decide (0 ≤ m ∧ m ≤ m ∧ m ≤ 1000000)]) := by kernel_rfl
set_option maxRecDepth 100000 in
theorem i13 (O : FOps) (n : Int) : runV (cxA O []) ihF.ntmps ⟨off, fun _ => none⟩ (cL (cL c6)) [(6, iI n), (7, sI 4 n), (10, sI 5 n)] [] 10 0 [6, 7, 10, 64, 65] [] =
    some (none, [iI n, sI 4 n, sI 5 n, iI n, .c (.int .i64 (.c 0))], [], []) := by kernel_rfl
/-! ### a column -/
set_option maxRecDepth 100000 in
theorem k14 (O : FOps) (n k : Int) : runV (cxA O []) ihF.ntmps ⟨off, fun _ => none⟩ (cL jK) [(6, iI n), (7, sI 4 n), (10, sI 5 n), (64, iI n), (65, iI k)] [] 10 0 [6, 7, 10, 64, 65, 66] [] =
    some (none, [iI n, sI 4 n, sI 5 n, iI n, iI k, .c (.bool (.s (decide (k < n))))], [], []) := by kernel_rfl
set_option maxRecDepth 100000 in
theorem k15 (O : FOps) (n k : Int) : runV (cxA O []) ihF.ntmps ⟨off, fun _ => none⟩ (cL BK) [(6, iI n), (7, sI 4 n), (10, sI 5 n), (64, iI n), (65, iI k)] [] 10 0 [6, 7, 10, 11, 64, 65] [] =
    some (none, [iI n, sI 4 n, sI 5 n, iI k, iI n, iI k], [], []) := by kernel_rfl
set_option maxRecDepth 100000 in
theorem k16 (O : FOps) (n k : Int) : runV (cxA O []) ihF.ntmps ⟨off, fun _ => none⟩ (cL (cR BK)) [(6, iI n), (7, sI 4 n), (10, sI 5 n), (11, iI k), (64, iI n), (65, iI k)] [] 10 0 [6, 7, 10, 11, 12, 64, 65] [] =
    some (none, [iI n, sI 4 n, sI 5 n, iI k, iI k, iI n, iI k], [], []) := by kernel_rfl
set_option maxRecDepth 100000 in
theorem k17 (O : FOps) (n k : Int) : runV (cxA O []) ihF.ntmps ⟨off, fun _ => none⟩ (cL (cL bk2)) [(6, iI n), (7, sI 4 n), (10, sI 5 n), (11, iI k), (12, iI k), (64, iI n), (65, iI k)] [] 10 0 [6, 7, 10, 11, 12, 13, 64, 65] [] =
    some (none, [iI n, sI 4 n, sI 5 n, iI k, iI k, iI k, iI n, iI k], [], []) := by kernel_rfl
noncomputable abbrev vK (n k b i : Int) : List (Nat × SV) := [(6, iI n), (7, sI 4 n), (10, sI 5 n), (11, iI k), (12, iI b), (13, iI i), (64, iI n), (65, iI k)]
/-- The size of a number, the program's own. -/
noncomputable def szI (O : FOps) (x : Nat) : Nat := bif O.cmp .lss .f32 x 0 then O.neg .f32 x else x
noncomputable def pvI (O : FOps) (b i : Int) (x y : Nat) : Int := bif O.cmp .gtr .f32 (szI O x) (szI O y) then i else b
set_option maxRecDepth 100000 in
theorem pRd (O : FOps) (n k b i : Int) (hd : Int → List SC) (x y : Int → Nat) : runV (cxA O [hI 77 21 n, hI 85 22 n]) ihF.ntmps ⟨on1 72 true, fun _ => none⟩ jP (vK n k b i)
    [(4, roG n hd), (21, roG n (fr x)), (22, roG n (fr y))] 23 0 [6, 7, 10, 11, 12, 13, 64, 65] [] =
    some (none, [iI n, sI 4 n, sI 5 n, iI k, iI (pvI O b i (x k) (y k)), iI (IntKind.i64.wrap (i + 1)), iI n, iI k], [], [decide (i < n), bI n i, bI n i, rowIs hd i (hd1 21 n), bI n k, bI n k, bI n b, bI n b, rowIs hd b (hd1 22 n), bI n k, bI n k]) := by kernel_rfl
set_option maxRecDepth 100000 in
theorem pR1 (O : FOps) (n k b i : Int) (hd : Int → List SC) (x : Int → Nat) : runV (cxA O [hI 77 21 n, hI 85 21 n]) ihF.ntmps ⟨on1 72 true, fun _ => none⟩ jP (vK n k b i)
    [(4, roG n hd), (21, roG n (fr x))] 23 0 [6, 7, 10, 11, 12, 13, 64, 65] [] =
    some (none, [iI n, sI 4 n, sI 5 n, iI k, iI (pvI O b i (x k) (x k)), iI (IntKind.i64.wrap (i + 1)), iI n, iI k], [], [decide (i < n), bI n i, bI n i, rowIs hd i (hd1 21 n), bI n k, bI n k, bI n b, bI n b, rowIs hd b (hd1 21 n), bI n k, bI n k]) := by kernel_rfl
set_option maxRecDepth 100000 in
theorem pEnd (O : FOps) (n k b i : Int) : runV (cxA O []) ihF.ntmps ⟨on1 72 false, fun _ => none⟩ jP (vK n k b i)
    [] 10 0 [6, 7, 10, 11, 12, 64, 65] [] =
    some (some (.exit 4), [iI n, sI 4 n, sI 5 n, iI k, iI b, iI n, iI k], [], [!decide (i < n), true]) := by kernel_rfl
noncomputable abbrev vS (n k b : Int) : List (Nat × SV) := [(6, iI n), (7, sI 4 n), (10, sI 5 n), (11, iI k), (12, iI b), (64, iI n), (65, iI k)]
set_option maxRecDepth 100000 in
theorem z22t (O : FOps) (n k b : Int) (hd : Int → List SC) (x : Int → Nat) : runV (cxA O [hI 95 21 n]) ihF.ntmps ⟨on1 100 true, fun _ => none⟩ (cL bk3) (vS n k b)
    [(4, roG n hd), (21, roG n (fr x))] 23 0 [4, 5] [] =
    some (some .ret, [.c (.sl 0 0 0 (.c 0) false), .c (.int .i64 (.c 4))], [], [bI n b, bI n b, rowIs hd b (hd1 21 n), bI n k, bI n k, O.cmp .eql .f32 (x k) 0, true]) := by kernel_rfl
set_option maxRecDepth 100000 in
theorem z22f (O : FOps) (n k b : Int) (hd : Int → List SC) (x : Int → Nat) : runV (cxA O [hI 95 21 n]) ihF.ntmps ⟨on1 100 false, fun _ => none⟩ (cL bk3) (vS n k b)
    [(4, roG n hd), (21, roG n (fr x))] 23 0 [6, 7, 10, 11, 12, 64, 65] [] =
    some (none, [iI n, sI 4 n, sI 5 n, iI k, iI b, iI n, iI k], [], [bI n b, bI n b, rowIs hd b (hd1 21 n), bI n k, bI n k, !O.cmp .eql .f32 (x k) 0]) := by kernel_rfl
set_option maxRecDepth 100000 in
theorem z24' (O : FOps) (n k b : Int) (hd : Int → List SC) (ik ib : Nat) : runV (cxA O [hI 107 ib n, hI 111 ik n, (1000113, hntS []), (1000114, hntS [])]) ihF.ntmps ⟨off, fun _ => none⟩ (cL bk4) (vS n k b)
    [(4, ⟨true, false, .rows 1 n hd⟩)] 23 0 [6, 7, 10, 11, 12, 64, 65] [4] =
    some (none, [iI n, sI 4 n, sI 5 n, iI k, iI b, iI n, iI k], [some ⟨true, false, .rows 1 n (fun j => bif decide (j = b) then hd1 ik n else (bif decide (j = k) then hd1 ib n else hd j))⟩],
      [bI n b, bI n b, rowIs hd b (hd1 ib n), bI n k, bI n k, rowIs hd k (hd1 ik n), bI n k, bI n k, bI n b, bI n b]) := by kernel_rfl
set_option maxRecDepth 100000 in
theorem z25' (O : FOps) (n k b : Int) (x : Int → Nat) : runV (cxA O []) ihF.ntmps ⟨off, fun _ => none⟩ (cL bk5) (vS n k b)
    [(5, ⟨true, false, .rows 1 n (fr x)⟩)] 23 0 [6, 7, 10, 11, 12, 64, 65] [5] =
    some (none, [iI n, sI 4 n, sI 5 n, iI k, iI b, iI n, iI k], [some ⟨true, false, .rows 1 n (fr (fun j => bif decide (j = b) then x k else (bif decide (j = k) then x b else x j)))⟩],
      [bI n b, bI n b, bI n k, bI n k, bI n k, bI n k, bI n b, bI n b]) := by kernel_rfl
set_option maxRecDepth 100000 in
theorem z26 (O : FOps) (n k b : Int) : runV (cxA O []) ihF.ntmps ⟨off, fun _ => none⟩ (cL bk6) (vS n k b)
    [] 10 0 [6, 7, 10, 11, 64, 65, 129, 130] [] =
    some (none, [iI n, sI 4 n, sI 5 n, iI k, iI n, iI k, iI n, .c (.int .i64 (.c 0))], [], []) := by kernel_rfl
/-! ### one row more -/
noncomputable abbrev vE (n k i : Int) : List (Nat × SV) := [(6, iI n), (7, sI 4 n), (10, sI 5 n), (11, iI k), (64, iI n), (65, iI k), (129, iI n), (130, iI i)]
noncomputable abbrev tE : List Nat := [6, 7, 10, 11, 64, 65, 129, 130]
set_option maxRecDepth 100000 in
theorem e27 (O : FOps) (n k i : Int) : runV (cxA O []) ihF.ntmps ⟨off, fun _ => none⟩ (cL jE) (vE n k i) [] 10 0 (tE ++ [131]) [] =
    some (none, [iI n, sI 4 n, sI 5 n, iI k, iI n, iI k, iI n, iI i, .c (.bool (.s (decide (i < n))))], [], []) := by kernel_rfl
set_option maxRecDepth 100000 in
theorem e28 (O : FOps) (n k i : Int) : runV (cxA O []) ihF.ntmps ⟨off, fun _ => none⟩ (cL BE) (vE n k i) [] 10 0 (tE ++ [14]) [] =
    some (none, [iI n, sI 4 n, sI 5 n, iI k, iI n, iI k, iI n, iI i, iI i], [], []) := by kernel_rfl
set_option maxRecDepth 100000 in
theorem e29t (O : FOps) (n k i : Int) : runV (cxA O []) ihF.ntmps ⟨on1 135 true, fun _ => none⟩ (cL (cR BE)) (vE n k i ++ [(14, iI i)]) [] 10 0 tE [] =
    some (some (.exit 7), [iI n, sI 4 n, sI 5 n, iI k, iI n, iI k, iI n, iI i], [], [decide (i = k), true]) := by kernel_rfl
set_option maxRecDepth 100000 in
theorem e29f (O : FOps) (n k i : Int) : runV (cxA O []) ihF.ntmps ⟨on1 135 false, fun _ => none⟩ (cL (cR BE)) (vE n k i ++ [(14, iI i)]) [] 10 0 (tE ++ [14]) [] =
    some (none, [iI n, sI 4 n, sI 5 n, iI k, iI n, iI k, iI n, iI i, iI i], [], [!decide (i = k)]) := by kernel_rfl
set_option maxRecDepth 100000 in
theorem e30 (O : FOps) (n k i : Int) (hd : Int → List SC) (x y : Int → Nat) : runV (cxA O [hI 138 21 n, hI 145 22 n]) ihF.ntmps ⟨off, fun _ => none⟩ (cL be2) (vE n k i ++ [(14, iI i)])
    [(4, roG n hd), (21, roG n (fr x)), (22, roG n (fr y))] 23 0 (tE ++ [14, 15]) [] =
    some (none, [iI n, sI 4 n, sI 5 n, iI k, iI n, iI k, iI n, iI i, iI i, .c (.flt .f32 (O.bin .quo .f32 (x k) (y k)))], [], [bI n i, bI n i, rowIs hd i (hd1 21 n), bI n k, bI n k, bI n k, bI n k, rowIs hd k (hd1 22 n), bI n k, bI n k]) := by kernel_rfl
noncomputable abbrev vJ (n k i : Int) (q : Nat) : List (Nat × SV) := vE n k i ++ [(14, iI i), (15, .c (.flt .f32 q))]
noncomputable abbrev oJ (n k i : Int) (q : Nat) : List SV := [iI n, sI 4 n, sI 5 n, iI k, iI n, iI k, iI n, iI i, iI i, .c (.flt .f32 q)]
set_option maxRecDepth 100000 in
theorem e31 (O : FOps) (n k i : Int) (q : Nat) : runV (cxA O []) ihF.ntmps ⟨off, fun _ => none⟩ (cL (cL be3)) (vJ n k i q) [] 10 0 (tE ++ [14, 15, 16]) [] =
    some (none, oJ n k i q ++ [iI k], [], []) := by kernel_rfl
noncomputable def elim (O : FOps) (q : Nat) (x y : Nat) : Nat := O.bin .sub .f32 x (O.bin .mul .f32 q y)
set_option maxRecDepth 100000 in
theorem jRd (O : FOps) (n k i j : Int) (q : Nat) (hd : Int → List SC) (x y : Int → Nat) : runV (cxA O [hI 159 21 n, hI 167 22 n]) ihF.ntmps ⟨on1 154 true, fun _ => none⟩ jJ (vJ n k i q ++ [(16, iI j)])
    [(4, roG n hd), (21, ⟨true, false, .rows 1 n (fr x)⟩), (22, roG n (fr y))] 23 0 (tE ++ [14, 15, 16]) [21] =
    some (none, oJ n k i q ++ [iI (IntKind.i64.wrap (j + 1))], [some ⟨true, false, .rows 1 n (fr (fun c => bif decide (c = j) then elim O q (x j) (y j) else x c))⟩],
      [decide (j < n), bI n i, bI n i, rowIs hd i (hd1 21 n), bI n j, bI n j, bI n k, bI n k, rowIs hd k (hd1 22 n), bI n j, bI n j, bI n j, bI n j]) := by kernel_rfl
set_option maxRecDepth 100000 in
theorem jEnd (O : FOps) (n k i j : Int) (q : Nat) : runV (cxA O []) ihF.ntmps ⟨on1 154 false, fun _ => none⟩ jJ (vJ n k i q ++ [(16, iI j)])
    [] 23 0 (tE ++ [14, 15]) [] =
    some (some (.exit 8), oJ n k i q, [], [!decide (j < n), true]) := by kernel_rfl
set_option maxRecDepth 100000 in
theorem e35 (O : FOps) (n k i : Int) (q : Nat) (x : Int → Nat) : runV (cxA O []) ihF.ntmps ⟨off, fun _ => none⟩ (cR be3) (vJ n k i q)
    [(5, ⟨true, false, .rows 1 n (fr x)⟩)] 23 0 tE [5] =
    some (none, [iI n, sI 4 n, sI 5 n, iI k, iI n, iI k, iI n, iI i], [some ⟨true, false, .rows 1 n (fr (fun c => bif decide (c = i) then elim O q (x i) (x k) else x c))⟩], [bI n i, bI n i, bI n k, bI n k, bI n i, bI n i]) := by kernel_rfl
set_option maxRecDepth 100000 in
theorem e36 (O : FOps) (n k i : Int) : runV (cxA O []) ihF.ntmps ⟨off, fun _ => none⟩ (cR (cR (cR jE))) (vE n k i) [] 10 0 tE [] =
    some (none, [iI n, sI 4 n, sI 5 n, iI k, iI n, iI k, iI n, iI (IntKind.i64.wrap (i + 1))], [], []) := by kernel_rfl
set_option maxRecDepth 100000 in
theorem k37 (O : FOps) (n k : Int) : runV (cxA O []) ihF.ntmps ⟨off, fun _ => none⟩ (cR (cR (cR jK))) [(6, iI n), (7, sI 4 n), (10, sI 5 n), (64, iI n), (65, iI k)] [] 10 0 [6, 7, 10, 64, 65] [] =
    some (none, [iI n, sI 4 n, sI 5 n, iI n, iI (IntKind.i64.wrap (k + 1))], [], []) := by kernel_rfl
set_option maxRecDepth 100000 in
theorem eEnd (O : FOps) (n k i : Int) : runV (cxA O []) ihF.ntmps ⟨on1 131 false, fun _ => none⟩ jE (vE n k i) [] 10 0 [6, 7, 10, 64, 65] [] =
    some (some (.exit 6), [iI n, sI 4 n, sI 5 n, iI n, iI k], [], [!decide (i < n), true]) := by kernel_rfl
set_option maxRecDepth 100000 in
theorem kEnd (O : FOps) (n k : Int) : runV (cxA O []) ihF.ntmps ⟨on1 66 false, fun _ => none⟩ jK [(6, iI n), (7, sI 4 n), (10, sI 5 n), (64, iI n), (65, iI k)] [] 10 0 [6, 7, 10] [] =
    some (some (.exit 2), [iI n, sI 4 n, sI 5 n], [], [!decide (k < n), true]) := by kernel_rfl
/-! ### what comes out -/
set_option maxRecDepth 100000 in
theorem i38 (O : FOps) (n : Int) : runV (cxA O []) ihF.ntmps ⟨off, fun _ => none⟩ (cL c7) [(6, iI n), (7, sI 4 n), (10, sI 5 n)] [] 10 0 [6, 7, 10, 17] [10] =
    some (none, [iI n, sI 4 n, sI 5 n, .c (.sl 10 0 1 (.c 0) true)], [some ⟨true, true, .cells []⟩], []) := by kernel_rfl
set_option maxRecDepth 100000 in
theorem i39 (O : FOps) (n : Int) : runV (cxA O []) ihF.ntmps ⟨off, fun _ => none⟩ (cL (cL c8)) [(6, iI n), (7, sI 4 n), (10, sI 5 n), (17, sF 6 0)] [] 10 0 [6, 7, 10, 17, 190, 191] [] =
    some (none, [iI n, sI 4 n, sI 5 n, sF 6 0, iI n, .c (.int .i64 (.c 0))], [], []) := by kernel_rfl
noncomputable abbrev vO (n k : Int) : List (Nat × SV) := [(6, iI n), (7, sI 4 n), (10, sI 5 n), (17, sF 6 k), (190, iI n), (191, iI k)]
set_option maxRecDepth 100000 in
theorem oRd (O : FOps) (n k : Int) (hd : Int → List SC) (x y z : Int → Nat) : runV (cxA O [hI 201 21 n]) ihF.ntmps ⟨on1 192 true, fun _ => none⟩ jO (vO n k)
    [(4, roG n hd), (5, roG n (fr y)), (6, ⟨true, true, .rows 1 k (fr z)⟩), (21, roG n (fr x))] 23 0 [6, 7, 10, 17, 190, 191] [24] =
    some (none, [iI n, sI 4 n, sI 5 n, sF 24 (k + 1), iI n, iI (IntKind.i64.wrap (k + 1))], [some ⟨true, true, .rows 1 (k + 1) (fun j => bif decide (j < k) then fr z j else [.flt .f32 (O.bin .quo .f32 (y k) (x k))])⟩],
      [decide (k < n), bI n k, bI n k, bI n k, bI n k, rowIs hd k (hd1 21 n), bI n k, bI n k, decide (0 ≤ k ∧ k ≤ k ∧ k ≤ 999999)]) := by kernel_rfl
set_option maxRecDepth 100000 in
theorem oEnd (O : FOps) (n k : Int) : runV (cxA O []) ihF.ntmps ⟨on1 192 false, fun _ => none⟩ jO (vO n k)
    [] 23 0 [17] [] =
    some (some (.exit 10), [sF 6 k], [], [!decide (k < n), true]) := by kernel_rfl
set_option maxRecDepth 100000 in
theorem i44t (O : FOps) (nm : Nat → Bool) (n : Int) (row : Int → List SC) : runV (cxA O (LIs nm)) ihF.ntmps ⟨on1 212 true, fun _ => none⟩ (cL c9) [(17, sF 6 n)] [(6, roG n row)] 10 0 [4, 5] [] =
    some (some .ret, [.c (.sl 0 0 0 (.c 0) false), .c (.int .i64 (.c 4))], [], [flatR row, SlFloat32.okN n n row, !Fnr.finN nm n row, true]) := by kernel_rfl
set_option maxRecDepth 100000 in
theorem i44f (O : FOps) (nm : Nat → Bool) (n : Int) (row : Int → List SC) : runV (cxA O (LIs nm)) ihF.ntmps ⟨on1 212 false, fun _ => none⟩ (cL c9) [(17, sF 6 n)] [(6, roG n row)] 10 0 [17] [] =
    some (none, [sF 6 n], [], [flatR row, SlFloat32.okN n n row, !(!Fnr.finN nm n row)]) := by kernel_rfl
set_option maxRecDepth 100000 in
theorem i46 (O : FOps) (n : Int) : runV (cxA O []) ihF.ntmps ⟨off, fun _ => none⟩ (cR c9) [(17, sF 6 n)] [] 10 0 [4, 5] [] =
    some (some .ret, [sF 6 n, .c (.int .i64 (.c 0))], [], [true]) := by kernel_rfl
theorem ih_res : ihF.results.toList = [.tmp 4, .tmp 5] := by kernel_rfl
end
end Go.Proofs.Ytaoeigofmfpamaa
end

/- SolveHeats' table in memory; the pivot. Nothing is assumed. -/
section
namespace Go.Proofs.Ytaoeigofmfpamaa
open Go
noncomputable section
/-- A table: headers under 'hT', rows under 'fT', the right side under 'hr'. -/
def tb (sg0 : Nat → Option Seg) (hT hr fT : Nat) (n : Int) (hd : Int → List SC) (Y : Nat → Int → Nat) (r : Int → Nat) : Nat → Option Seg := fun j =>
  if j = hT then some ⟨true, false, .rows 1 n hd⟩ else if j = hr then some ⟨true, false, .rows 1 n (fr r)⟩ else if isF fT j = true ∧ ((posF j : Nat) : Int) < n then some ⟨true, false, .rows 1 n (fr (Y (posF j)))⟩ else sg0 j
def hdP (fT : Nat) (π : Nat → Nat) (n : Int) (j : Int) : List SC := hd1 (gid fT (π j.toNat)) n
structure PmOK (N : Nat) (π : Nat → Nat) : Prop where
  lt : ∀ p, p < N → π p < N
  inj : ∀ p q, p < N → q < N → π p = π q → p = q
structure Ids (hT hr fT : Nat) : Prop where
  a : 900 ≤ hT
  b : 900 ≤ hr
  c : hT ≠ hr
  d : fT < 32
  e : isF fT hT = false
  f : isF fT hr = false
theorem fr_flat (x : Int → Nat) : flatR (fr x) = true := @decide_eq_true _ (Classical.propDecidable _) fun _ => rfl
section
variable {w0 w : World} {T0 : Nat → Nat → Prop} {E : EM} {sg0 : Nat → Option Seg} {hT hr fT N : Nat} {π : Nat → Nat} {Y : Nat → Int → Nat} {r : Int → Nat} {hd : Int → List SC} {n : Int}
theorem tb_T : tb sg0 hT hr fT n hd Y r hT = some ⟨true, false, .rows 1 n hd⟩ := by unfold tb; rw [if_pos rfl]
theorem tb_r (hi : Ids hT hr fT) : tb sg0 hT hr fT n hd Y r hr = some ⟨true, false, .rows 1 n (fr r)⟩ := by unfold tb; rw [if_neg (Ne.symm hi.c), if_pos rfl]
theorem tb_row (hi : Ids hT hr fT) {p : Nat} (hp : (p : Int) < n) : tb sg0 hT hr fT n hd Y r (gid fT p) = some ⟨true, false, .rows 1 n (fr (Y p))⟩ := by
  have h1 : isF fT (gid fT p) = true := by rw [isF_gid hi.d]; simp
  unfold tb
  rw [if_neg (fun e => by rw [e, hi.e] at h1; cases h1), if_neg (fun e => by rw [e, hi.f] at h1; cases h1), pos_gid hi.d, if_pos ⟨h1, hp⟩]
theorem gid_neT (hi : Ids hT hr fT) (p : Nat) : gid fT p ≠ hT ∧ gid fT p ≠ hr := by
  have h1 : isF fT (gid fT p) = true := by rw [isF_gid hi.d]; simp
  exact ⟨fun e => (by rw [e, hi.e] at h1; cases h1), fun e => (by rw [e, hi.f] at h1; cases h1)⟩
/-- The view of the headers in a piece. -/
theorem Wk.hvP {E : EM} {rw o : Bool} {l : List (Nat × Nat)} {hv : Int → List SC} (h : ∀ j : Int, 0 ≤ j → j < n → hv j = [.any] ∨ ∃ id, hv j = hd1 id n ∧ lkN l id = some (gid fT (π j.toNat)) ∧ 0 < id ∧ id < 900) :
    Wk E (alE E l) ⟨rw, o, .rows 1 n (hdP fT π n)⟩ ⟨false, false, .rows 1 n hv⟩ :=
  Wk.rows (fun h => by cases h) (fun h => by cases h) (Int.le_refl _) fun j c v k0 k1 hv' => by
    rcases h j k0 k1 with h | ⟨id, h, hl, hp, h9⟩
    · rw [h]; exact one_any hv'
    · rw [h]
      exact one_row (fun v hv => sl_in hv h9 (by omega) hl) hv'
def hv2 (i b : Nat) (n : Int) (j : Int) : List SC := if j = (i : Int) then hd1 21 n else if j = (b : Int) then hd1 22 n else [.any]
def hv1 (i : Nat) (n : Int) (j : Int) : List SC := if j = (i : Int) then hd1 21 n else [.any]
abbrev l2 (hT hr fT : Nat) (π : Nat → Nat) (i b : Nat) : List (Nat × Nat) := [(4, hT), (5, hr), (21, gid fT (π i)), (22, gid fT (π b))]
abbrev l0 (hT hr : Nat) : List (Nat × Nat) := [(4, hT), (5, hr)]
theorem l2_ok (hi : Ids hT hr fT) (i b : Nat) : ∀ p ∈ l2 hT hr fT π i b, p.1 < 23 ∧ p.1 < 900 ∧ 900 ≤ p.2 :=
  allC ⟨by simp, by simp, hi.a⟩ (allC ⟨by simp, by simp, hi.b⟩ (allC ⟨by simp, by simp, by have := gid_ge fT (π i); simp only; omega⟩ (allC ⟨by simp, by simp, by have := gid_ge fT (π b); simp only; omega⟩ all0)))
theorem l0_ok (hi : Ids hT hr fT) : ∀ p ∈ l0 hT hr, p.1 < 10 ∧ p.1 < 900 ∧ 900 ≤ p.2 := allC ⟨by simp, by simp, hi.a⟩ (allC ⟨by simp, by simp, hi.b⟩ all0)
theorem l0_ok23 (hi : Ids hT hr fT) : ∀ p ∈ l0 hT hr, p.1 < 23 ∧ p.1 < 900 ∧ 900 ≤ p.2 := allC ⟨by simp, by simp, hi.a⟩ (allC ⟨by simp, by simp, hi.b⟩ all0)
theorem hv2_ok (i b : Nat) : ∀ j : Int, 0 ≤ j → j < n → hv2 i b n j = [.any] ∨ ∃ id, hv2 i b n j = hd1 id n ∧ lkN (l2 hT hr fT π i b) id = some (gid fT (π j.toNat)) ∧ 0 < id ∧ id < 900 := fun j h0 h1 => by
  unfold hv2
  by_cases e : j = (i : Int)
  · rw [if_pos e]
    subst e
    exact .inr ⟨21, rfl, by simp [lkN], by omega, by omega⟩
  · rw [if_neg e]
    by_cases e' : j = (b : Int)
    · rw [if_pos e']
      subst e'
      exact .inr ⟨22, rfl, by simp [lkN], by omega, by omega⟩
    · rw [if_neg e']; exact .inl rfl
theorem hv1_ok (i b : Nat) : ∀ j : Int, 0 ≤ j → j < n → hv1 i n j = [.any] ∨ ∃ id, hv1 i n j = hd1 id n ∧ lkN (l2 hT hr fT π i b) id = some (gid fT (π j.toNat)) ∧ 0 < id ∧ id < 900 := fun j h0 h1 => by
  unfold hv1
  by_cases e : j = (i : Int)
  · rw [if_pos e]
    subst e
    exact .inr ⟨21, rfl, by simp [lkN], by omega, by omega⟩
  · rw [if_neg e]; exact .inl rfl
/-- The pivot's place. -/
def pivL (O : FOps) (X : Nat → Int → Nat) (k : Nat) : Nat → Nat → Nat → Nat
  | 0, _, b => b
  | m + 1, i, b => pivL O X k m (i + 1) (bif O.cmp .gtr .f32 (szI O (X i k)) (szI O (X b k)) then i else b)
theorem pvI_eq (O : FOps) (b i x y : Nat) : pvI O b i x y = (((bif O.cmp .gtr .f32 (szI O x) (szI O y) then i else b : Nat)) : Int) := by
  unfold pvI
  cases O.cmp .gtr .f32 (szI O x) (szI O y) <;> rfl
theorem bI_ok {i N : Nat} (h : i < N) : decide (0 ≤ (i : Int) ∧ (i : Int) < (N : Int)) = true := by rw [decide_eq_true_eq]; omega
theorem okH1 (k i : Nat) (n : Int) : AllOK Try.prog [hI k i n] := ⟨hintOK _, trivial⟩
theorem okH2 (k i : Nat) (k' i' : Nat) (n : Int) : AllOK Try.prog [hI k i n, hI k' i' n] := ⟨hintOK _, hintOK _, trivial⟩
theorem piv (hi : Ids hT hr fT) (hN : N ≤ 8) {k : Nat} (hk : k < N) (hπ : PmOK N π) {X : Nat → Int → Nat} (hX : ∀ p, p < N → Y (π p) = X p) (gm : GM w0 T0 E (tb sg0 hT hr fT N (hdP fT π N) Y r) w) {a : Act}
    (hs : Sts E a (renA (l0 hT hr) (vK N k k k))) (hsz : a.tmps.size = ihF.ntmps) (hd : a.defers = []) :
    (Code.loop jP).wp Try.prog (fun e a' w' => e = .exit 4 ∧ a'.tmps.size = ihF.ntmps ∧ a'.defers = [] ∧ GM w0 T0 E (tb sg0 hT hr fT N (hdP fT π N) Y r) w' ∧ Sts E a' (renA (l0 hT hr) (vS N k (pivL fops X k (N - k) k k : Nat)))) a w := by
  refine wp_loop_inv (fun m a w => ∃ i b : Nat, m = N - i ∧ k ≤ i ∧ i ≤ N ∧ b < N ∧ (b < i ∨ (i = k ∧ b = k)) ∧ pivL fops X k (N - i) i b = pivL fops X k (N - k) k k ∧ a.tmps.size = ihF.ntmps ∧ a.defers = [] ∧ GM w0 T0 E (tb sg0 hT hr fT N (hdP fT π N) Y r) w ∧ Sts E a (renA (l0 hT hr) (vK N k b i)))
    (fun m a w hI => ?_) (N - k) a w ⟨k, k, rfl, Nat.le_refl _, by omega, hk, .inr ⟨rfl, rfl⟩, rfl, hsz, hd, gm, hs⟩
  obtain ⟨i, b, hm, hki, hiN, hbN, hbi, hp, hsz, hd, gm, hs⟩ := hI
  by_cases hlt : i < N
  · have h1 : pivL fops X k (N - i) i b = pivL fops X k (N - (i + 1)) (i + 1) (bif fops.cmp .gtr .f32 (szI fops (X i k)) (szI fops (X b k)) then i else b) := by
      rw [show N - i = (N - (i + 1)) + 1 by omega]; rfl
    rw [h1] at hp
    have hlt' : decide ((i : Int) < (N : Int)) = true := by rw [decide_eq_true_eq]; omega
    have fin : ∀ e a' w', e = exitOf none ∧ a'.tmps.size = ihF.ntmps ∧ a'.defers = [] ∧ GM w0 T0 E (tb sg0 hT hr fT N (hdP fT π N) Y r) w' ∧ Sts E a' (zipR (l2 hT hr fT π i b) [6, 7, 10, 11, 12, 13, 64, 65] [iI N, sI 4 N, sI 5 N, iI k, iI (pvI fops b i (X i k) (X b k)), iI (IntKind.i64.wrap (i + 1)), iI N, iI k]) →
        (e = .normal ∧ ∃ m', m' < m ∧ ∃ i b : Nat, m' = N - i ∧ k ≤ i ∧ i ≤ N ∧ b < N ∧ (b < i ∨ (i = k ∧ b = k)) ∧ pivL fops X k (N - i) i b = pivL fops X k (N - k) k k ∧ a'.tmps.size = ihF.ntmps ∧ a'.defers = [] ∧ GM w0 T0 E (tb sg0 hT hr fT N (hdP fT π N) Y r) w' ∧ Sts E a' (renA (l0 hT hr) (vK N k b i))) ∨ (e ≠ .normal ∧ (e = .exit 4 ∧ a'.tmps.size = ihF.ntmps ∧ a'.defers = [] ∧ GM w0 T0 E (tb sg0 hT hr fT N (hdP fT π N) Y r) w' ∧ Sts E a' (renA (l0 hT hr) (vS N k (pivL fops X k (N - k) k k : Nat))))) := by
      rintro e a' w' ⟨rfl, q1, q2, q3, q4⟩
      rw [pvI_eq, wrapN (by omega)] at q4
      refine .inl ⟨rfl, N - (i + 1), by omega, i + 1, _, rfl, by omega, by omega, ?_, ?_, hp, q1, q2, q3, q4⟩
      · cases fops.cmp .gtr .f32 (szI fops (X i k)) (szI fops (X b k))
        · exact hbN
        · exact hlt
      · refine .inl ?_
        cases fops.cmp .gtr .f32 (szI fops (X i k)) (szI fops (X b k))
        · show b < i + 1; omega
        · show i < i + 1; omega
    have rowI := tb_row (sg0 := sg0) (hd := hdP fT π N) (Y := Y) (r := r) hi (n := (N : Int)) (p := π i) (by have := hπ.lt i hlt; omega)
    have rowB := tb_row (sg0 := sg0) (hd := hdP fT π N) (Y := Y) (r := r) hi (n := (N : Int)) (p := π b) (by have := hπ.lt b hbN; omega)
    rw [hX i hlt] at rowI
    rw [hX b hbN] at rowB
    by_cases hib : i = b
    · subst hib
      exact wp_mono (gm.run (body_ok (okH2 77 21 85 21 N) mixed 1 jP (on1 72 true)) (pR1 fops N k i i (hv1 i N) (X i))
        (AllT.cons hlt' (AllT.cons (bI_ok hlt) (AllT.cons (bI_ok hlt) (AllT.cons (rowIs_ok (if_pos rfl)) (AllT.cons (bI_ok hk) (AllT.cons (bI_ok hk) (AllT.cons (bI_ok hlt) (AllT.cons (bI_ok hlt) (AllT.cons (rowIs_ok (if_pos rfl)) (AllT.cons (bI_ok hk) (AllT.cons (bI_ok hk) AllT.nil)))))))))))
        (l2 hT hr fT π i i) (l2_ok hi i i) rfl hs hsz hd
        (allC ⟨hT, _, rfl, tb_T, Wk.hvP (hv1_ok i i)⟩ (allC ⟨gid fT (π i), _, rfl, rowI, Wk.flat (fun h => by cases h) (fun h => by cases h) (fr_flat _)⟩ all0)) (allC rfl (allC rfl all0))) fin
    · exact wp_mono (gm.run (body_ok (okH2 77 21 85 22 N) mixed 1 jP (on1 72 true)) (pRd fops N k b i (hv2 i b N) (X i) (X b))
        (AllT.cons hlt' (AllT.cons (bI_ok hlt) (AllT.cons (bI_ok hlt) (AllT.cons (rowIs_ok (if_pos rfl)) (AllT.cons (bI_ok hk) (AllT.cons (bI_ok hk) (AllT.cons (bI_ok hbN) (AllT.cons (bI_ok hbN) (AllT.cons (rowIs_ok (by unfold hv2; rw [if_neg (by omega), if_pos rfl])) (AllT.cons (bI_ok hk) (AllT.cons (bI_ok hk) AllT.nil)))))))))))
        (l2 hT hr fT π i b) (l2_ok hi i b) rfl hs hsz hd
        (allC ⟨hT, _, rfl, tb_T, Wk.hvP (hv2_ok i b)⟩ (allC ⟨gid fT (π i), _, rfl, rowI, Wk.flat (fun h => by cases h) (fun h => by cases h) (fr_flat _)⟩ (allC ⟨gid fT (π b), _, rfl, rowB, Wk.flat (fun h => by cases h) (fun h => by cases h) (fr_flat _)⟩ all0))) (allC rfl (allC rfl (allC rfl all0)))) fin
  · have e : i = N := by omega
    refine wp_mono (gm.run (body_ok okNil mixed 1 jP (on1 72 false)) (pEnd fops N k b i) (AllT.cons (by rw [decide_eq_false (by omega)]; rfl) (AllT.cons rfl AllT.nil)) (l0 hT hr) (l0_ok hi) rfl hs hsz hd all0 all0) fun e a' w' hp' => ?_
    obtain ⟨rfl, q1, q2, q3, q4⟩ := hp'
    subst e
    rw [show i - i = 0 by omega] at hp
    have hp : b = pivL fops X k (i - k) k k := hp
    rw [← hp]
    exact .inr ⟨by simp [exitOf], rfl, q1, q2, q3, q4⟩
end
end
end Go.Proofs.Ytaoeigofmfpamaa
end

/- SolveHeats: the pivot tried, rows changed over, a row less another. Nothing is assumed. -/
section
namespace Go.Proofs.Ytaoeigofmfpamaa
open Go
noncomputable section
def sw {α : Type} (X : Nat → α) (k b p : Nat) : α := if p = b then X k else if p = k then X b else X p
def swI (r : Int → Nat) (k b : Int) (c : Int) : Nat := bif decide (c = b) then r k else (bif decide (c = k) then r b else r c)
theorem PmOK.swap {N : Nat} {π : Nat → Nat} (h : PmOK N π) {k b : Nat} (hk : k < N) (hb : b < N) : PmOK N (sw π k b) := by
  refine ⟨fun p hp => ?_, fun p q hp hq e => ?_⟩
  · unfold sw
    split
    · exact h.lt k hk
    · split
      · exact h.lt b hb
      · exact h.lt p hp
  · have key : ∀ x, x < N → sw π k b x = (if x = b then π k else if x = k then π b else π x) := fun _ _ => rfl
    rw [key p hp, key q hq] at e
    by_cases e1 : p = b <;> by_cases e2 : q = b
    · omega
    · rw [if_pos e1, if_neg e2] at e
      by_cases e3 : q = k
      · rw [if_pos e3] at e; have := h.inj k b hk hb e; omega
      · rw [if_neg e3] at e; have := h.inj k q hk hq e; omega
    · rw [if_neg e1, if_pos e2] at e
      by_cases e3 : p = k
      · rw [if_pos e3] at e; have := h.inj b k hb hk e; omega
      · rw [if_neg e3] at e; have := h.inj p k hp hk e; omega
    · rw [if_neg e1, if_neg e2] at e
      by_cases e3 : p = k <;> by_cases e4 : q = k
      · omega
      · rw [if_pos e3, if_neg e4] at e; have := h.inj b q hb hq e; omega
      · rw [if_neg e3, if_pos e4] at e; have := h.inj p b hp hb e; omega
      · rw [if_neg e3, if_neg e4] at e; exact h.inj p q hp hq e
abbrev nilV : SV := .c (.sl 0 0 0 (.c 0) false)
section
variable {w0 w : World} {T0 : Nat → Nat → Prop} {E : EM} {sg0 : Nat → Option Seg} {hT hr fT N : Nat} {π : Nat → Nat} {Y : Nat → Int → Nat} {r : Int → Nat} {X : Nat → Int → Nat}
theorem z22 (hi : Ids hT hr fT) {k b : Nat} (hk : k < N) (hb : b < N) (hπ : PmOK N π) (hX : ∀ p, p < N → Y (π p) = X p) (gm : GM w0 T0 E (tb sg0 hT hr fT N (hdP fT π N) Y r) w) {a : Act}
    (hs : Sts E a (renA (l0 hT hr) (vS N k b))) (hsz : a.tmps.size = ihF.ntmps) (hd : a.defers = []) :
    (cL bk3).wp Try.prog (fun e a' w' => a'.tmps.size = ihF.ntmps ∧ a'.defers = [] ∧ GM w0 T0 E (tb sg0 hT hr fT N (hdP fT π N) Y r) w' ∧
      ((fops.cmp .eql .f32 (X b k) 0 = true ∧ e = .ret ∧ Sts E a' [(4, nilV), (5, .c (.int .i64 (.c 4)))]) ∨ (fops.cmp .eql .f32 (X b k) 0 = false ∧ e = .normal ∧ Sts E a' (renA (l0 hT hr) (vS N k b))))) a w := by
  have rowB := tb_row (sg0 := sg0) (hd := hdP fT π N) (Y := Y) (r := r) hi (n := (N : Int)) (p := π b) (by have := hπ.lt b hb; omega)
  rw [hX b hb] at rowB
  have hrd : ∀ p ∈ [((4 : Nat), roG (N : Int) (hv1 b N)), (21, roG (N : Int) (fr (X b)))], ∃ g s0, lkN (l2 hT hr fT π b b) p.1 = some g ∧ tb sg0 hT hr fT N (hdP fT π N) Y r g = some s0 ∧ Wk E (alE E (l2 hT hr fT π b b)) s0 p.2 :=
    allC ⟨hT, _, rfl, tb_T, Wk.hvP (hv1_ok b b)⟩ (allC ⟨gid fT (π b), _, rfl, rowB, Wk.flat (fun h => by cases h) (fun h => by cases h) (fr_flat _)⟩ all0)
  cases hz : fops.cmp .eql .f32 (X b k) 0 with
  | true =>
    refine wp_mono (gm.run (body_ok (okH1 95 21 N) mixed 1 _ (on1 100 true)) (z22t fops N k b (hv1 b N) (X b))
      (AllT.cons (bI_ok hb) (AllT.cons (bI_ok hb) (AllT.cons (rowIs_ok (if_pos rfl)) (AllT.cons (bI_ok hk) (AllT.cons (bI_ok hk) (AllT.cons hz (AllT.cons rfl AllT.nil)))))))
      (l2 hT hr fT π b b) (l2_ok hi b b) rfl hs hsz hd hrd (allC rfl (allC rfl all0))) fun e a' w' hp => ?_
    obtain ⟨rfl, q1, q2, q3, q4⟩ := hp
    exact ⟨q1, q2, q3, .inl ⟨rfl, rfl, q4⟩⟩
  | false =>
    refine wp_mono (gm.run (body_ok (okH1 95 21 N) mixed 1 _ (on1 100 false)) (z22f fops N k b (hv1 b N) (X b))
      (AllT.cons (bI_ok hb) (AllT.cons (bI_ok hb) (AllT.cons (rowIs_ok (if_pos rfl)) (AllT.cons (bI_ok hk) (AllT.cons (bI_ok hk) (AllT.cons (by rw [hz]; rfl) AllT.nil))))))
      (l2 hT hr fT π b b) (l2_ok hi b b) rfl hs hsz hd hrd (allC rfl (allC rfl all0))) fun e a' w' hp => ?_
    obtain ⟨rfl, q1, q2, q3, q4⟩ := hp
    exact ⟨q1, q2, q3, .inr ⟨rfl, rfl, q4⟩⟩
theorem okZ (N ik ib : Nat) : AllOK Try.prog [hI 107 ib N, hI 111 ik N, (1000113, hntS []), (1000114, hntS [])] := ⟨hintOK _, hintOK _, hintOK _, hintOK _, trivial⟩
/-- Headers under ids of the whole. -/
theorem Wk.hdB {E E' : EM} {rw o : Bool} {n : Int} {hd hd' : Int → List SC} (he : ∀ j, 900 ≤ j → E' j = E j) (h : ∀ j : Int, 0 ≤ j → j < n → ∃ g m, 900 ≤ g ∧ hd j = hd1 g m ∧ hd' j = hd1 g m) : Wk E E' ⟨rw, o, .rows 1 n hd⟩ ⟨rw, o, .rows 1 n hd'⟩ :=
  Wk.rows id id (Int.le_refl _) fun j c v h0 h1 hv => by
    obtain ⟨g, m, h9, e1, e2⟩ := h j h0 h1
    rw [e1] at hv
    rw [e2]
    exact one_row (fun v hv => sl_as hv (fun x hx => by rw [he g h9]; exact hx) (by omega) _ id) hv
theorem al_big {E : EM} {l : List (Nat × Nat)} : ∀ j, 900 ≤ j → alE E l j = E j := fun j hj => by unfold alE; rw [if_neg (by omega)]
theorem tb_hd (hd hd' : Int → List SC) {n : Int} : ∀ j g, tb sg0 hT hr fT n hd' Y r j = some g → upS (tb sg0 hT hr fT n hd Y r) [(hT, ⟨true, false, .rows 1 n hd'⟩)] j = some g := fun j g hg => by
  unfold upS
  rw [findS_cons]
  unfold tb at hg ⊢
  by_cases e : j = hT
  · rw [if_pos e] at hg ⊢; exact hg
  · rw [if_neg e] at hg ⊢
    rw [findS_nil, if_neg e]; exact hg
theorem tb_rr (hi : Ids hT hr fT) (r r' : Int → Nat) {n : Int} {hd : Int → List SC} : ∀ j g, tb sg0 hT hr fT n hd Y r' j = some g → upS (tb sg0 hT hr fT n hd Y r) [(hr, ⟨true, false, .rows 1 n (fr r')⟩)] j = some g := fun j g hg => by
  unfold upS
  rw [findS_cons]
  unfold tb at hg ⊢
  by_cases e : j = hr
  · rw [if_pos e]
    rw [if_neg (fun h => hi.c (by rw [← h, e])), if_pos e] at hg; exact hg
  · rw [if_neg e, findS_nil]
    by_cases e' : j = hT
    · rw [if_pos e'] at hg ⊢; exact hg
    · rw [if_neg e', if_neg e] at hg ⊢; exact hg
def updF (Y : Nat → Int → Nat) (q : Nat) (f : Int → Nat) : Nat → Int → Nat := fun p => if p = q then f else Y p
theorem tb_up (hi : Ids hT hr fT) {n : Int} {hd : Int → List SC} {q : Nat} {f : Int → Nat} (hq : (q : Int) < n) : ∀ j g, tb sg0 hT hr fT n hd (updF Y q f) r j = some g → upS (tb sg0 hT hr fT n hd Y r) [(gid fT q, ⟨true, false, .rows 1 n (fr f)⟩)] j = some g := fun j g hg => by
  obtain ⟨n1, n2⟩ := gid_neT hi q
  unfold upS
  rw [findS_cons]
  unfold tb at hg ⊢
  by_cases e : j = gid fT q
  · subst e
    rw [if_neg n1, if_neg n2, pos_gid hi.d] at hg
    rw [if_pos rfl]
    split at hg
    · unfold updF at hg; rw [if_pos rfl] at hg; exact hg
    · rename_i hc
      exact absurd ⟨show isF fT (gid fT q) = true by rw [isF_gid hi.d]; simp, hq⟩ hc
  · rw [if_neg e, findS_nil]
    split at hg
    · rename_i h; rw [if_pos h]; exact hg
    · rename_i h
      rw [if_neg h]
      split at hg
      · rename_i h2; rw [if_pos h2]; exact hg
      · rename_i h2
        rw [if_neg h2]
        split at hg
        · rename_i h3
          rw [if_pos h3]
          have : posF j ≠ q := fun h => e (by rw [← h]; exact (isF_iff hi.d).1 h3.1)
          unfold updF at hg
          rw [if_neg this] at hg
          exact hg
        · rename_i h3
          rw [if_neg h3]; exact hg
theorem z24 (hi : Ids hT hr fT) {k b : Nat} (hk : k < N) (hb : b < N) (gm : GM w0 T0 E (tb sg0 hT hr fT N (hdP fT π N) Y r) w) {a : Act}
    (hs : Sts E a (renA (l0 hT hr) (vS N k b))) (hsz : a.tmps.size = ihF.ntmps) (hd : a.defers = []) :
    (cL bk4).wp Try.prog (fun e a' w' => e = .normal ∧ a'.tmps.size = ihF.ntmps ∧ a'.defers = [] ∧ GM w0 T0 E (tb sg0 hT hr fT N (hdP fT (sw π k b) N) Y r) w' ∧ Sts E a' (renA (l0 hT hr) (vS N k b))) a w := by
  refine wp_mono (gm.wr1 (g2 := ⟨true, false, .rows 1 N (hdP fT (sw π k b) N)⟩) (g0 := hT) (i0 := 4) (sr := ⟨true, false, .rows 1 N (hdP fT π N)⟩) (body_ok (okZ N (gid fT (π k)) (gid fT (π b))) mixed 1 _ off) (Proofs.Ytaoeigofmfpamaa.z24' fops N k b (hdP fT π N) (gid fT (π k)) (gid fT (π b)))
    (AllT.cons (bI_ok hb) (AllT.cons (bI_ok hb) (AllT.cons (rowIs_ok rfl) (AllT.cons (bI_ok hk) (AllT.cons (bI_ok hk) (AllT.cons (rowIs_ok rfl) (AllT.cons (bI_ok hk) (AllT.cons (bI_ok hk) (AllT.cons (bI_ok hb) (AllT.cons (bI_ok hb) AllT.nil))))))))))
    (l0 hT hr) (l0_ok23 hi) rfl hs hsz hd
    (allC ⟨hT, _, rfl, tb_T, Wk.hdB al_big fun j _ _ => ⟨_, _, by have := gid_ge fT (π j.toNat); omega, rfl, rfl⟩⟩ all0) (allC (allC (fun h => absurd rfl h) all0) all0) rfl rfl rfl (allC (fun _ => rfl) all0) (fun E' he => Wk.hdB (fun j hj => (he j hj).symm) fun j h0 h1 => ?_)) fun e a' w' hp => ?_
  · unfold hdP sw
    by_cases e : j = (b : Int)
    · subst e
      exact ⟨gid fT (π k), N, by have := gid_ge fT (π k); omega, by rw [decide_eq_true rfl]; rfl, by rw [if_pos (Int.toNat_natCast b)]⟩
    · rw [decide_eq_false e]
      have e2 : j.toNat ≠ b := by omega
      rw [if_neg e2]
      by_cases e' : j = (k : Int)
      · subst e'
        exact ⟨gid fT (π b), N, by have := gid_ge fT (π b); omega, by rw [decide_eq_true rfl]; rfl, by rw [if_pos (Int.toNat_natCast k)]⟩
      · rw [decide_eq_false e']
        have e3 : j.toNat ≠ k := by omega
        rw [if_neg e3]
        exact ⟨gid fT (π j.toNat), N, by have := gid_ge fT (π j.toNat); omega, rfl, rfl⟩
  · obtain ⟨rfl, q1, q2, q3, q4⟩ := hp
    exact ⟨rfl, q1, q2, q4.sub (tb_hd _ _), q3⟩
theorem z25 (hi : Ids hT hr fT) {k b : Nat} (hk : k < N) (hb : b < N) {hdr : Int → List SC} (gm : GM w0 T0 E (tb sg0 hT hr fT N hdr Y r) w) {a : Act}
    (hs : Sts E a (renA (l0 hT hr) (vS N k b))) (hsz : a.tmps.size = ihF.ntmps) (hd : a.defers = []) :
    (cL bk5).wp Try.prog (fun e a' w' => e = .normal ∧ a'.tmps.size = ihF.ntmps ∧ a'.defers = [] ∧ GM w0 T0 E (tb sg0 hT hr fT N hdr Y (swI r k b)) w' ∧ Sts E a' (renA (l0 hT hr) (vS N k b))) a w := by
  refine wp_mono (gm.wr1 (g2 := ⟨true, false, .rows 1 N (fr (swI r k b))⟩) (g0 := hr) (i0 := 5) (sr := ⟨true, false, .rows 1 N (fr r)⟩) (body_ok okNil mixed 1 _ off) (Proofs.Ytaoeigofmfpamaa.z25' fops N k b r)
    (AllT.cons (bI_ok hb) (AllT.cons (bI_ok hb) (AllT.cons (bI_ok hk) (AllT.cons (bI_ok hk) (AllT.cons (bI_ok hk) (AllT.cons (bI_ok hk) (AllT.cons (bI_ok hb) (AllT.cons (bI_ok hb) AllT.nil))))))))
    (l0 hT hr) (l0_ok23 hi) rfl hs hsz hd
    (allC ⟨hr, _, rfl, tb_r hi, Wk.flat id id (fr_flat _)⟩ all0) (allC (allC (fun h => absurd rfl h) all0) all0) rfl rfl rfl (allC (fun _ => rfl) all0) (fun E' he => Wk.flat id id (fr_flat _))) fun e a' w' hp => ?_
  obtain ⟨rfl, q1, q2, q3, q4⟩ := hp
  exact ⟨rfl, q1, q2, q4.sub (tb_rr hi _ _), q3⟩
end
end
end Go.Proofs.Ytaoeigofmfpamaa
end

/- SolveHeats: each row less a multiple of the pivot's. Nothing is assumed. -/
section
namespace Go.Proofs.Ytaoeigofmfpamaa
open Go
noncomputable section
/-- A row, less 'q' times another, from the column 'k' on, as far as 'j'. -/
def elRow (O : FOps) (q : Nat) (x y : Int → Nat) (k j : Int) (c : Int) : Nat := if k ≤ c ∧ c < j then elim O q (x c) (y c) else x c
def quoK (O : FOps) (X : Nat → Int → Nat) (k p : Nat) : Nat := O.bin .quo .f32 (X p k) (X k k)
def elX (O : FOps) (N k : Nat) (X : Nat → Int → Nat) (m p : Nat) : Int → Nat := if p < m ∧ p ≠ k then elRow O (quoK O X k p) (X p) (X k) k N else X p
def elR (O : FOps) (k : Nat) (X : Nat → Int → Nat) (r : Int → Nat) (m : Nat) (c : Int) : Nat := if 0 ≤ c ∧ c < m ∧ c ≠ k then elim O (quoK O X k c.toNat) (r c) (r k) else r c
theorem elRow_step (O : FOps) (q : Nat) (x y : Int → Nat) {k j : Nat} (h : k ≤ j) : (fun c : Int => bif decide (c = (j : Int)) then elim O q (elRow O q x y k j j) (y j) else elRow O q x y k j c) = elRow O q x y k ((j + 1 : Nat) : Int) := by
  funext c
  by_cases e : c = (j : Int)
  · subst e
    have e1 : elRow O q x y k j j = x j := if_neg (by omega)
    have e2 : elRow O q x y k ((j + 1 : Nat) : Int) j = elim O q (x j) (y j) := if_pos (by omega)
    rw [decide_eq_true rfl, e1, e2]; rfl
  · rw [decide_eq_false e]
    simp only [cond_false]
    unfold elRow
    by_cases h1 : (k : Int) ≤ c ∧ c < (j : Int)
    · rw [if_pos h1, if_pos (by omega)]
    · rw [if_neg h1, if_neg (by omega)]
theorem elRow_zero (O : FOps) (q : Nat) (x y : Int → Nat) (k : Nat) : elRow O q x y k k = x := by
  funext c; unfold elRow; rw [if_neg (by omega)]
theorem updF_same (Y : Nat → Int → Nat) (q : Nat) (f f' : Int → Nat) : updF (updF Y q f) q f' = updF Y q f' := by
  funext p; unfold updF
  by_cases e : p = q
  · rw [if_pos e, if_pos e]
  · rw [if_neg e, if_neg e, if_neg e]
theorem updF_id (Y : Nat → Int → Nat) (q : Nat) : updF Y q (Y q) = Y := by
  funext p; unfold updF
  by_cases e : p = q
  · rw [if_pos e, e]
  · rw [if_neg e]
section
variable {w0 w : World} {T0 : Nat → Nat → Prop} {E : EM} {sg0 : Nat → Option Seg} {hT hr fT N : Nat} {π : Nat → Nat} {Y : Nat → Int → Nat} {r : Int → Nat} {X : Nat → Int → Nat}
theorem jl (hi : Ids hT hr fT) (hN : N ≤ 8) {i k : Nat} (hik : i ≠ k) (hiN : i < N) (hk : k < N) (hπ : PmOK N π) {q : Nat} {x y : Int → Nat} (hYk : Y (π k) = y) (gm : GM w0 T0 E (tb sg0 hT hr fT N (hdP fT π N) (updF Y (π i) x) r) w) {a : Act}
    (hs : Sts E a (renA (l0 hT hr) (vJ N k i q ++ [(16, iI k)]))) (hsz : a.tmps.size = ihF.ntmps) (hd : a.defers = []) :
    (Code.loop jJ).wp Try.prog (fun e a' w' => e = .exit 8 ∧ a'.tmps.size = ihF.ntmps ∧ a'.defers = [] ∧ GM w0 T0 E (tb sg0 hT hr fT N (hdP fT π N) (updF Y (π i) (elRow fops q x y k N)) r) w' ∧ Sts E a' (renA (l0 hT hr) (vJ N k i q))) a w := by
  have hne : π i ≠ π k := fun e => hik (hπ.inj i k hiN hk e)
  refine wp_loop_inv (fun m a w => ∃ j : Nat, m = N - j ∧ k ≤ j ∧ j ≤ N ∧ a.tmps.size = ihF.ntmps ∧ a.defers = [] ∧ GM w0 T0 E (tb sg0 hT hr fT N (hdP fT π N) (updF Y (π i) (elRow fops q x y k j)) r) w ∧ Sts E a (renA (l0 hT hr) (vJ N k i q ++ [(16, iI j)])))
    (fun m a w hI => ?_) (N - k) a w ⟨k, rfl, Nat.le_refl _, by omega, hsz, hd, by rw [elRow_zero]; exact gm, hs⟩
  obtain ⟨j, hm, hkj, hjN, hsz, hd, gm, hs⟩ := hI
  by_cases hlt : j < N
  · have rowI := tb_row (sg0 := sg0) (hd := hdP fT π N) (Y := updF Y (π i) (elRow fops q x y k j)) (r := r) hi (n := (N : Int)) (p := π i) (by have := hπ.lt i hiN; omega)
    have rowK := tb_row (sg0 := sg0) (hd := hdP fT π N) (Y := updF Y (π i) (elRow fops q x y k j)) (r := r) hi (n := (N : Int)) (p := π k) (by have := hπ.lt k hk; omega)
    rw [show updF Y (π i) (elRow fops q x y k j) (π i) = elRow fops q x y k j from if_pos rfl] at rowI
    rw [show updF Y (π i) (elRow fops q x y k j) (π k) = y from (if_neg (Ne.symm hne)).trans hYk] at rowK
    have d1 := gid_neT hi (π i)
    have d2 := gid_neT hi (π k)
    have d3 : gid fT (π i) ≠ gid fT (π k) := fun e => hne (gid_inj e)
    refine wp_mono (gm.wr1 (g2 := ⟨true, false, .rows 1 N (fr (elRow fops q x y k ((j + 1 : Nat) : Int)))⟩) (g0 := gid fT (π i)) (i0 := 21) (sr := ⟨true, false, .rows 1 N (fr (elRow fops q x y k j))⟩) (body_ok (okH2 159 21 167 22 N) mixed 1 jJ (on1 154 true)) (jRd fops N k i j q (hv2 i k N) (elRow fops q x y k j) y)
      (AllT.cons (by rw [decide_eq_true_eq]; omega) (AllT.cons (bI_ok hiN) (AllT.cons (bI_ok hiN) (AllT.cons (rowIs_ok (if_pos rfl)) (AllT.cons (bI_ok hlt) (AllT.cons (bI_ok hlt) (AllT.cons (bI_ok hk) (AllT.cons (bI_ok hk) (AllT.cons (rowIs_ok (by unfold hv2; rw [if_neg (by omega), if_pos rfl])) (AllT.cons (bI_ok hlt) (AllT.cons (bI_ok hlt) (AllT.cons (bI_ok hlt) (AllT.cons (bI_ok hlt) AllT.nil)))))))))))))
      (l2 hT hr fT π i k) (l2_ok hi i k) rfl hs hsz hd
      (allC ⟨hT, _, rfl, tb_T, Wk.hvP (hv2_ok i k)⟩ (allC ⟨gid fT (π i), _, rfl, rowI, Wk.flat id id (fr_flat _)⟩ (allC ⟨gid fT (π k), _, rfl, rowK, Wk.flat (fun h => by cases h) (fun h => by cases h) (fr_flat _)⟩ all0)))
      (allC (allC (fun h => absurd rfl h) (allC (fun _ _ => show some hT ≠ some (gid fT (π i)) from fun e => d1.1 (Option.some.inj e).symm) (allC (fun _ h => by rcases h with h | h <;> cases h) all0)))
        (allC (allC (fun _ _ => show some (gid fT (π i)) ≠ some hT from fun e => d1.1 (Option.some.inj e)) (allC (fun h => absurd rfl h) (allC (fun _ _ => show some (gid fT (π i)) ≠ some (gid fT (π k)) from fun e => d3 (Option.some.inj e)) all0)))
        (allC (allC (fun _ h => by rcases h with h | h <;> cases h) (allC (fun _ _ => show some (gid fT (π k)) ≠ some (gid fT (π i)) from fun e => d3 (Option.some.inj e).symm) (allC (fun h => absurd rfl h) all0))) all0)))
      rfl rfl rfl (allC (fun h => by cases h) (allC (fun _ => rfl) (allC (fun h => by cases h) all0))) (fun E' he => by rw [elRow_step fops q x y hkj]; exact Wk.flat id id (fr_flat _))) fun e a' w' hp => ?_
    obtain ⟨rfl, q1, q2, q3, q4⟩ := hp
    have q5 := q4.sub (tb_up (f := elRow fops q x y k ((j + 1 : Nat) : Int)) hi (q := π i) (by have := hπ.lt i hiN; omega))
    rw [updF_same] at q5
    obtain ⟨t1, t2, t3, t4, t5, t6, t7, t8, t9, t10, t11, _⟩ := q3
    refine .inl ⟨rfl, N - (j + 1), by omega, j + 1, rfl, by omega, by omega, q1, q2, q5, t1, t2, t3, t4, t5, t6, t7, t8, t9, t10, ?_, trivial⟩
    have t11' : RelV E (iI (IntKind.i64.wrap ((j : Int) + 1))) (a'.tmps.getD 16 undef) := t11
    rw [wrapN (by omega)] at t11'
    exact t11'
  · have e : j = N := by omega
    subst e
    refine wp_mono (gm.run (body_ok okNil mixed 1 jJ (on1 154 false)) (jEnd fops j k i j q) (AllT.cons (by rw [decide_eq_false (by omega)]; rfl) (AllT.cons rfl AllT.nil)) (l0 hT hr) (l0_ok23 hi) rfl hs hsz hd all0 all0) fun e a' w' hp' => ?_
    obtain ⟨rfl, q1, q2, q3, q4⟩ := hp'
    exact .inr ⟨by simp [exitOf], rfl, q1, q2, q3, q4⟩
theorem elR_step (O : FOps) (X : Nat → Int → Nat) (r : Int → Nat) {k i : Nat} (h : i ≠ k) : (fun c : Int => bif decide (c = (i : Int)) then elim O (quoK O X k i) (elR O k X r i i) (elR O k X r i k) else elR O k X r i c) = elR O k X r (i + 1) := by
  funext c
  by_cases e : c = (i : Int)
  · subst e
    have e1 : elR O k X r i i = r i := if_neg (by omega)
    have e3 : elR O k X r i k = r k := if_neg (by omega)
    have e2 : elR O k X r (i + 1) i = elim O (quoK O X k i) (r i) (r k) := if_pos (by omega)
    rw [decide_eq_true rfl, e1, e2, e3]; rfl
  · rw [decide_eq_false e]
    simp only [cond_false]
    unfold elR
    by_cases h1 : 0 ≤ c ∧ c < (i : Int) ∧ c ≠ k
    · rw [if_pos h1, if_pos (by omega)]
    · rw [if_neg h1, if_neg (by omega)]
theorem elR_skip (O : FOps) (X : Nat → Int → Nat) (r : Int → Nat) (k : Nat) : elR O k X r (k + 1) = elR O k X r k := by
  funext c; unfold elR
  by_cases h1 : 0 ≤ c ∧ c < (k : Int) ∧ c ≠ k
  · rw [if_pos h1, if_pos (by omega)]
  · rw [if_neg h1, if_neg (by omega)]
theorem elX_skip (O : FOps) (N k : Nat) (X : Nat → Int → Nat) (p : Nat) : elX O N k X (k + 1) p = elX O N k X k p := by
  unfold elX
  by_cases h1 : p < k ∧ p ≠ k
  · rw [if_pos h1, if_pos (by omega)]
  · rw [if_neg h1, if_neg (by omega)]
theorem il (hi : Ids hT hr fT) (hN : N ≤ 8) {k : Nat} (hk : k < N) (hπ : PmOK N π) (hX : ∀ p, p < N → Y (π p) = X p) (gm : GM w0 T0 E (tb sg0 hT hr fT N (hdP fT π N) Y r) w) {a : Act}
    (hs : Sts E a (renA (l0 hT hr) (vE N k 0))) (hsz : a.tmps.size = ihF.ntmps) (hd : a.defers = []) :
    (Code.loop jE).wp Try.prog (fun e a' w' => e = .exit 6 ∧ a'.tmps.size = ihF.ntmps ∧ a'.defers = [] ∧ (∃ Y', (∀ p, p < N → Y' (π p) = elX fops N k X N p) ∧ GM w0 T0 E (tb sg0 hT hr fT N (hdP fT π N) Y' (elR fops k X r N)) w') ∧
      Sts E a' (renA (l0 hT hr) [(6, iI N), (7, sI 4 N), (10, sI 5 N), (64, iI N), (65, iI k)])) a w := by
  refine wp_loop_inv (fun m a w => ∃ i : Nat, m = N - i ∧ i ≤ N ∧ a.tmps.size = ihF.ntmps ∧ a.defers = [] ∧ (∃ Y', (∀ p, p < N → Y' (π p) = elX fops N k X i p) ∧ GM w0 T0 E (tb sg0 hT hr fT N (hdP fT π N) Y' (elR fops k X r i)) w) ∧ Sts E a (renA (l0 hT hr) (vE N k i)))
    (fun m a w hI => ?_) N a w ⟨0, rfl, Nat.zero_le _, hsz, hd, ⟨Y, fun p hp => by rw [hX p hp]; unfold elX; rw [if_neg (by omega)], by
      have : elR fops k X r 0 = r := by funext c; unfold elR; rw [if_neg (by omega)]
      rw [this]; exact gm⟩, hs⟩
  obtain ⟨i, hm, hiN, hsz, hd, ⟨Y1, hY1, gm⟩, hs⟩ := hI
  by_cases hlt : i < N
  · rw [je_shape]
    refine wp_seq (wp_mono (gm.run (body_ok okNil mixed 1 _ off) (e27 fops N k i) AllT.nil (l0 hT hr) (l0_ok hi) rfl hs hsz hd all0 all0) fun e a1 w1 hp => ?_)
    obtain ⟨rfl, q1, q2, gm1, ⟨t1, t2, t3, t4, t5, t6, t7, t8, t131, _⟩⟩ := hp
    have hb : a1.eval (.tmp 131) = .bool true := by
      have : a1.tmps.getD 131 undef = .bool (decide ((i : Int) < (N : Int))) := t131
      rw [decide_eq_true (by omega)] at this; exact this
    refine wp_seq (wp_cond_true hb (wp_skip ?_))
    -- behind the body
    have after : ∀ (Y2 : Nat → Int → Nat) (r2 : Int → Nat) a2 w2, a2.tmps.size = ihF.ntmps → a2.defers = [] → (∀ p, p < N → Y2 (π p) = elX fops N k X (i + 1) p) → r2 = elR fops k X r (i + 1) → GM w0 T0 E (tb sg0 hT hr fT N (hdP fT π N) Y2 r2) w2 → Sts E a2 (renA (l0 hT hr) (vE N k i)) →
        (cR (cR (cR jE))).wp Try.prog (fun e a' w' => (e = .normal ∧ ∃ m', m' < m ∧ ∃ i : Nat, m' = N - i ∧ i ≤ N ∧ a'.tmps.size = ihF.ntmps ∧ a'.defers = [] ∧ (∃ Y', (∀ p, p < N → Y' (π p) = elX fops N k X i p) ∧ GM w0 T0 E (tb sg0 hT hr fT N (hdP fT π N) Y' (elR fops k X r i)) w') ∧ Sts E a' (renA (l0 hT hr) (vE N k i))) ∨
          (e ≠ .normal ∧ (e = .exit 6 ∧ a'.tmps.size = ihF.ntmps ∧ a'.defers = [] ∧ (∃ Y', (∀ p, p < N → Y' (π p) = elX fops N k X N p) ∧ GM w0 T0 E (tb sg0 hT hr fT N (hdP fT π N) Y' (elR fops k X r N)) w') ∧ Sts E a' (renA (l0 hT hr) [(6, iI N), (7, sI 4 N), (10, sI 5 N), (64, iI N), (65, iI k)])))) a2 w2 := by
      intro Y2 r2 a2 w2 g1 g2 hY2 hr2 gm2 hs2
      refine wp_mono (gm2.run (body_ok okNil mixed 1 _ off) (e36 fops N k i) AllT.nil (l0 hT hr) (l0_ok hi) rfl hs2 g1 g2 all0 all0) fun e a3 w3 hp => ?_
      obtain ⟨rfl, q1, q2, gm3, ⟨t1, t2, t3, t4, t5, t6, t7, t8, _⟩⟩ := hp
      have t8' : RelV E (iI (IntKind.i64.wrap ((i : Int) + 1))) (a3.tmps.getD 130 undef) := t8
      rw [wrapN (by omega)] at t8'
      exact .inl ⟨rfl, N - (i + 1), by omega, i + 1, rfl, by omega, q1, q2, ⟨Y2, hY2, by rw [← hr2]; exact gm3⟩, t1, t2, t3, t4, t5, t6, t7, t8', trivial⟩
    refine wp_seq (wp_block ?_)
    rw [be_shape]
    refine wp_seq (wp_mono (gm1.run (body_ok okNil mixed 1 _ off) (e28 fops N k i) AllT.nil (l0 hT hr) (l0_ok hi) rfl ⟨t1, t2, t3, t4, t5, t6, t7, t8, trivial⟩ q1 q2 all0 all0) fun e a2 w2 hp => ?_)
    obtain ⟨rfl, q1, q2, gm2, hs2⟩ := hp
    by_cases hik : i = k
    · subst hik
      refine wp_seq (wp_mono (gm2.run (body_ok okNil mixed 1 _ (on1 135 true)) (e29t fops N i i) (AllT.cons (decide_eq_true rfl) (AllT.cons rfl AllT.nil)) (l0 hT hr) (l0_ok hi) rfl hs2 q1 q2 all0 all0) fun e a3 w3 hp => ?_)
      obtain ⟨rfl, q1, q2, gm3, hs3⟩ := hp
      exact after Y1 _ a3 w3 q1 q2 (fun p hp => by rw [hY1 p hp, elX_skip]) (elR_skip _ _ _ _).symm gm3 hs3
    · refine wp_seq (wp_mono (gm2.run (body_ok okNil mixed 1 _ (on1 135 false)) (e29f fops N k i) (AllT.cons (by rw [decide_eq_false (by omega)]; rfl) AllT.nil) (l0 hT hr) (l0_ok hi) rfl hs2 q1 q2 all0 all0) fun e a3 w3 hp => ?_)
      obtain ⟨rfl, q1, q2, gm3, hs3⟩ := hp
      have hYi : Y1 (π i) = X i := by rw [hY1 i hlt]; unfold elX; rw [if_neg (by omega)]
      have hYk : Y1 (π k) = X k := by rw [hY1 k hk]; unfold elX; rw [if_neg (by omega)]
      have rowI := tb_row (sg0 := sg0) (hd := hdP fT π N) (Y := Y1) (r := elR fops k X r i) hi (n := (N : Int)) (p := π i) (by have := hπ.lt i hlt; omega)
      have rowK := tb_row (sg0 := sg0) (hd := hdP fT π N) (Y := Y1) (r := elR fops k X r i) hi (n := (N : Int)) (p := π k) (by have := hπ.lt k hk; omega)
      rw [hYi] at rowI
      rw [hYk] at rowK
      refine wp_seq (wp_mono (gm3.run (body_ok (okH2 138 21 145 22 N) mixed 1 _ off) (e30 fops N k i (hv2 i k N) (X i) (X k))
        (AllT.cons (bI_ok hlt) (AllT.cons (bI_ok hlt) (AllT.cons (rowIs_ok (if_pos rfl)) (AllT.cons (bI_ok hk) (AllT.cons (bI_ok hk) (AllT.cons (bI_ok hk) (AllT.cons (bI_ok hk) (AllT.cons (rowIs_ok (by unfold hv2; rw [if_neg (by omega), if_pos rfl])) (AllT.cons (bI_ok hk) (AllT.cons (bI_ok hk) AllT.nil))))))))))
        (l2 hT hr fT π i k) (l2_ok hi i k) rfl hs3 q1 q2
        (allC ⟨hT, _, rfl, tb_T, Wk.hvP (hv2_ok i k)⟩ (allC ⟨gid fT (π i), _, rfl, rowI, Wk.flat (fun h => by cases h) (fun h => by cases h) (fr_flat _)⟩ (allC ⟨gid fT (π k), _, rfl, rowK, Wk.flat (fun h => by cases h) (fun h => by cases h) (fr_flat _)⟩ all0))) (allC rfl (allC rfl (allC rfl all0)))) fun e a4 w4 hp => ?_)
      obtain ⟨rfl, q1, q2, gm4, hs4⟩ := hp
      refine wp_seq (wp_seq (wp_mono (gm4.run (body_ok okNil mixed 1 _ off) (e31 fops N k i (quoK fops X k i)) AllT.nil (l0 hT hr) (l0_ok hi) rfl hs4 q1 q2 all0 all0) fun e a5 w5 hp => ?_))
      obtain ⟨rfl, q1, q2, gm5, hs5⟩ := hp
      rw [← updF_id Y1 (π i)] at gm5
      rw [hYi] at gm5
      refine wp_block (wp_mono (jl hi hN hik hlt hk hπ hYk gm5 hs5 q1 q2) fun e a6 w6 hp => ?_)
      obtain ⟨rfl, q1, q2, gm6, hs6⟩ := hp
      show (cR be3).wp Try.prog _ a6 w6
      refine wp_mono (gm6.wr1 (g2 := ⟨true, false, .rows 1 N (fr (elR fops k X r (i + 1)))⟩) (g0 := hr) (i0 := 5) (sr := ⟨true, false, .rows 1 N (fr (elR fops k X r i))⟩) (body_ok okNil mixed 1 _ off) (e35 fops N k i (quoK fops X k i) (elR fops k X r i))
        (AllT.cons (bI_ok hlt) (AllT.cons (bI_ok hlt) (AllT.cons (bI_ok hk) (AllT.cons (bI_ok hk) (AllT.cons (bI_ok hlt) (AllT.cons (bI_ok hlt) AllT.nil))))))
        (l0 hT hr) (l0_ok23 hi) rfl hs6 q1 q2
        (allC ⟨hr, _, rfl, tb_r hi, Wk.flat id id (fr_flat _)⟩ all0) (allC (allC (fun h => absurd rfl h) all0) all0) rfl rfl rfl (allC (fun _ => rfl) all0) (fun E' he => by rw [elR_step fops X r hik]; exact Wk.flat id id (fr_flat _))) fun e a7 w7 hp => ?_
      obtain ⟨rfl, q1, q2, hs7, gm7⟩ := hp
      refine after _ _ a7 w7 q1 q2 (fun p hp => ?_) rfl (gm7.sub (tb_rr hi _ _)) hs7
      unfold updF
      by_cases e : π p = π i
      · have : p = i := hπ.inj p i hp hlt e
        subst this
        rw [if_pos rfl]; unfold elX; rw [if_pos (by omega)]
      · have : p ≠ i := fun h => e (by rw [h])
        rw [if_neg e, hY1 p hp]
        unfold elX
        by_cases h1 : p < i ∧ p ≠ k
        · rw [if_pos h1, if_pos (by omega)]
        · rw [if_neg h1, if_neg (by omega)]
  · have e : i = N := by omega
    subst e
    refine wp_mono (gm.run (body_ok okNil mixed 1 jE (on1 131 false)) (eEnd fops i k i) (AllT.cons (by rw [decide_eq_false (by omega)]; rfl) (AllT.cons rfl AllT.nil)) (l0 hT hr) (l0_ok hi) rfl hs hsz hd all0 all0) fun e a' w' hp' => ?_
    obtain ⟨rfl, q1, q2, q3, q4⟩ := hp'
    exact .inr ⟨by simp [exitOf], rfl, q1, q2, ⟨Y1, hY1, q3⟩, q4⟩
end
end
end Go.Proofs.Ytaoeigofmfpamaa
end

/- SolveHeats: column after column. Nothing is assumed. -/
section
namespace Go.Proofs.Ytaoeigofmfpamaa
open Go
noncomputable section
theorem pivL_lt (O : FOps) (X : Nat → Int → Nat) (k N : Nat) : ∀ m i b, i + m ≤ N → b < N → pivL O X k m i b < N
  | 0, _, b, _, h => h
  | m + 1, i, b, h, hb => pivL_lt O X k N m (i + 1) _ (by omega) (by
      cases O.cmp .gtr .f32 (szI O (X i k)) (szI O (X b k))
      · exact hb
      · show i < N; omega)
def stepK (O : FOps) (N k : Nat) (X : Nat → Int → Nat) (r : Int → Nat) : Option ((Nat → Int → Nat) × (Int → Nat)) :=
  bif O.cmp .eql .f32 (X (pivL O X k (N - k) k k) k) 0 then none else
    some (elX O N k (sw X k (pivL O X k (N - k) k k)) N, elR O k (sw X k (pivL O X k (N - k) k k)) (swI r k (pivL O X k (N - k) k k : Nat)) N)
def solveI (O : FOps) (N : Nat) : Nat → Nat → (Nat → Int → Nat) → (Int → Nat) → Option ((Nat → Int → Nat) × (Int → Nat))
  | 0, _, X, r => some (X, r)
  | m + 1, k, X, r => match stepK O N k X r with
    | none => none
    | some p => solveI O N m (k + 1) p.1 p.2
section
variable {w0 w : World} {T0 : Nat → Nat → Prop} {E : EM} {sg0 : Nat → Option Seg} {hT hr fT N : Nat} {r : Int → Nat} {X : Nat → Int → Nat}
def MT (w0 : World) (T0 : Nat → Nat → Prop) (E : EM) (sg0 : Nat → Option Seg) (hT hr fT N : Nat) (X : Nat → Int → Nat) (r : Int → Nat) (w : World) : Prop :=
  ∃ π Y, PmOK N π ∧ (∀ p, p < N → Y (π p) = X p) ∧ GM w0 T0 E (tb sg0 hT hr fT N (hdP fT π N) Y r) w
abbrev vC (n k : Int) : List (Nat × SV) := [(6, iI n), (7, sI 4 n), (10, sI 5 n), (64, iI n), (65, iI k)]
theorem kl (hi : Ids hT hr fT) (hN : N ≤ 8) (hM : MT w0 T0 E sg0 hT hr fT N X r w) {a : Act}
    (hs : Sts E a (renA (l0 hT hr) (vC N 0))) (hsz : a.tmps.size = ihF.ntmps) (hd : a.defers = []) :
    (Code.loop jK).wp Try.prog (fun e a' w' => a'.tmps.size = ihF.ntmps ∧ a'.defers = [] ∧
      ((e = .exit 2 ∧ (∃ X' r', solveI fops N N 0 X r = some (X', r') ∧ MT w0 T0 E sg0 hT hr fT N X' r' w') ∧ Sts E a' (renA (l0 hT hr) [(6, iI N), (7, sI 4 N), (10, sI 5 N)])) ∨
       (e = .ret ∧ solveI fops N N 0 X r = none ∧ (∃ X' r', MT w0 T0 E sg0 hT hr fT N X' r' w') ∧ Sts E a' [(4, nilV), (5, .c (.int .i64 (.c 4)))]))) a w := by
  refine wp_loop_inv (fun m a w => ∃ k X' r', m = N - k ∧ k ≤ N ∧ a.tmps.size = ihF.ntmps ∧ a.defers = [] ∧ solveI fops N (N - k) k X' r' = solveI fops N N 0 X r ∧ MT w0 T0 E sg0 hT hr fT N X' r' w ∧ Sts E a (renA (l0 hT hr) (vC N (k : Nat))))
    (fun m a w hI => ?_) N a w ⟨0, X, r, rfl, Nat.zero_le _, hsz, hd, rfl, hM, hs⟩
  obtain ⟨k, X1, r1, hm, hkN, hsz, hd, hsol, ⟨π, Y, hπ, hX, gm⟩, hs⟩ := hI
  by_cases hk : k < N
  · rw [jk_shape]
    refine wp_seq (wp_mono (gm.run (body_ok okNil mixed 1 _ off) (k14 fops N k) AllT.nil (l0 hT hr) (l0_ok hi) rfl hs hsz hd all0 all0) fun e a1 w1 hp => ?_)
    obtain ⟨rfl, q1, q2, gm1, ⟨t1, t2, t3, t4, t5, t66, _⟩⟩ := hp
    have hb : a1.eval (.tmp 66) = .bool true := by
      have : a1.tmps.getD 66 undef = .bool (decide ((k : Int) < (N : Int))) := t66
      rw [decide_eq_true (by omega)] at this; exact this
    refine wp_seq (wp_cond_true hb (wp_skip ?_))
    refine wp_seq (wp_block ?_)
    rw [bk_shape]
    refine wp_seq (wp_mono (gm1.run (body_ok okNil mixed 1 _ off) (k15 fops N k) AllT.nil (l0 hT hr) (l0_ok hi) rfl ⟨t1, t2, t3, t4, t5, trivial⟩ q1 q2 all0 all0) fun e a2 w2 hp => ?_)
    obtain ⟨rfl, q1, q2, gm2, hs2⟩ := hp
    refine wp_seq (wp_mono (gm2.run (body_ok okNil mixed 1 _ off) (k16 fops N k) AllT.nil (l0 hT hr) (l0_ok hi) rfl hs2 q1 q2 all0 all0) fun e a3 w3 hp => ?_)
    obtain ⟨rfl, q1, q2, gm3, hs3⟩ := hp
    refine wp_seq (wp_seq (wp_mono (gm3.run (body_ok okNil mixed 1 _ off) (k17 fops N k) AllT.nil (l0 hT hr) (l0_ok hi) rfl hs3 q1 q2 all0 all0) fun e a4 w4 hp => ?_))
    obtain ⟨rfl, q1, q2, gm4, hs4⟩ := hp
    refine wp_block (wp_mono (piv hi hN hk hπ hX gm4 hs4 q1 q2) fun e a5 w5 hp => ?_)
    obtain ⟨rfl, q1, q2, gm5, hs5⟩ := hp
    have hbN : pivL fops X1 k (N - k) k k < N := pivL_lt fops X1 k N (N - k) k k (by omega) hk
    have hstep : solveI fops N (N - k) k X1 r1 = match stepK fops N k X1 r1 with
      | none => none
      | some p => solveI fops N (N - (k + 1)) (k + 1) p.1 p.2 := by
      rw [show N - k = (N - (k + 1)) + 1 by omega]; rfl
    generalize hbe : pivL fops X1 k (N - k) k k = b at *
    show (Code.seq (cL bk3) (.seq (cL bk4) (.seq (cL bk5) (.seq (cL bk6) (.block 6 (.loop jE)))))).wp Try.prog _ a5 w5
    refine wp_seq (wp_mono (z22 hi hk hbN hπ hX gm5 hs5 q1 q2) fun e a6 w6 hp => ?_)
    obtain ⟨q1, q2, gm6, ⟨hz, rfl, hs6⟩ | ⟨hz, rfl, hs6⟩⟩ := hp
    · refine .inr ⟨by simp, q1, q2, .inr ⟨rfl, ?_, ⟨X1, r1, π, Y, hπ, hX, gm6⟩, hs6⟩⟩
      rw [← hsol, hstep]
      unfold stepK
      rw [hbe, hz]; rfl
    · refine wp_seq (wp_mono (z24 hi hk hbN gm6 hs6 q1 q2) fun e a7 w7 hp => ?_)
      obtain ⟨rfl, q1, q2, gm7, hs7⟩ := hp
      refine wp_seq (wp_mono (z25 hi hk hbN gm7 hs7 q1 q2) fun e a8 w8 hp => ?_)
      obtain ⟨rfl, q1, q2, gm8, hs8⟩ := hp
      refine wp_seq (wp_mono (gm8.run (body_ok okNil mixed 1 _ off) (z26 fops N k b) AllT.nil (l0 hT hr) (l0_ok hi) rfl hs8 q1 q2 all0 all0) fun e a9 w9 hp => ?_)
      obtain ⟨rfl, q1, q2, gm9, hs9⟩ := hp
      have hπ' := hπ.swap hk hbN
      have hX' : ∀ p, p < N → Y (sw π k b p) = sw X1 k b p := fun p hp => by
        unfold sw
        split
        · exact hX k hk
        · split
          · exact hX b hbN
          · exact hX p hp
      refine wp_block (wp_mono (il hi hN hk hπ' hX' gm9 hs9 q1 q2) fun e a10 w10 hp => ?_)
      obtain ⟨rfl, q1, q2, ⟨Y', hY', gm10⟩, hs10⟩ := hp
      show (cR (cR (cR jK))).wp Try.prog _ a10 w10
      refine wp_mono (gm10.run (body_ok okNil mixed 1 _ off) (k37 fops N k) AllT.nil (l0 hT hr) (l0_ok hi) rfl hs10 q1 q2 all0 all0) fun e a11 w11 hp => ?_
      obtain ⟨rfl, q1, q2, gm11, ⟨t1, t2, t3, t4, t5, _⟩⟩ := hp
      have t5' : RelV E (iI (IntKind.i64.wrap ((k : Int) + 1))) (a11.tmps.getD 65 undef) := t5
      rw [wrapN (by omega)] at t5'
      refine .inl ⟨rfl, N - (k + 1), by omega, k + 1, _, _, rfl, by omega, q1, q2, ?_, ⟨sw π k b, Y', hπ', hY', gm11⟩, t1, t2, t3, t4, t5', trivial⟩
      rw [← hsol, hstep]
      unfold stepK
      rw [hbe, hz]; rfl
  · have e : k = N := by omega
    subst e
    refine wp_mono (gm.run (body_ok okNil mixed 1 jK (on1 66 false)) (kEnd fops k k) (AllT.cons (by rw [decide_eq_false (by omega)]; rfl) (AllT.cons rfl AllT.nil)) (l0 hT hr) (l0_ok hi) rfl hs hsz hd all0 all0) fun e a' w' hp' => ?_
    obtain ⟨rfl, q1, q2, q3, q4⟩ := hp'
    rw [show k - k = 0 by omega] at hsol
    exact .inr ⟨by simp [exitOf], q1, q2, .inl ⟨rfl, ⟨X1, r1, hsol.symm, π, Y, hπ, hX, q3⟩, q4⟩⟩
end
end
end Go.Proofs.Ytaoeigofmfpamaa
end
