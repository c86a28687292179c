/- Whether a stove is valid, with any number of logs. Nothing is assumed. -/
import Derived.Test.YtaodbpejeglmlaaDoorSlWood
import Derived.Test.YtaodbpejeglmlaaDoorVlg
namespace Go.Proofs.YtaodbpejeglmlaaDoor.Stv
open Go SlWood
open Wt
noncomputable def LV (O : FOps) (vl : (Nat → Nat) → Bool) : List (Nat × CS) := [(43, gS (validG vl)), (39, gQ [.p 18] (validG vl)), (46, amtS), (38, amtS), (76, absS)]
set_option maxRecDepth 100000 in
theorem okLV : AllOK Tryd.prog (LV fops valid) := ⟨cValI, cValS, cAmtI, cAmtL, cAbs, trivial⟩
noncomputable def cxV (O : FOps) (vl : (Nat → Nat) → Bool) : Cx := ⟨Tryd.prog, O, orcN Tryd.prog O (LV O vl) 8⟩
noncomputable def onV (x y : Nat) (a b : Bool) (t : Nat) : Option Bool := bif Nat.beq t x then some a else bif Nat.beq t y then some b else none
noncomputable def at18 (F : Nat → Int → Nat) (k : Int) (i : Nat) : Nat := [F 0 k, F 1 k, F 2 k, F 3 k, F 4 k, F 5 k, F 6 k, F 7 k, F 8 k, F 9 k, F 10 k, F 11 k, F 12 k, F 13 k, F 14 k, F 15 k, F 16 k, F 17 k].getD i 0
noncomputable def qV (vl : (Nat → Nat) → Bool) (F : Nat → Int → Nat) (k : Int) : Bool := vl fun i => at18 F k i
noncomputable def stK : List KC := [.sl 1 0 18 false, .flt .f32, .flt .f32, .int .i8, .int .i64, .flt .f32]
noncomputable def sgs : List (Nat × KS) := [(1, ⟨false, false, .rows 18⟩)]
noncomputable def sgsI : List (Nat × KS) := [(1, ⟨false, false, .rows 18⟩), (2, ⟨true, true, .cells stK⟩)]
noncomputable def idx3 (n k : Int) : List Bool := [decide (k < n), decide (0 ≤ k ∧ k < n), decide (0 ≤ k ∧ k < n)]
theorem idx3_ok {n k : Int} (h0 : 0 ≤ k) (h1 : k < n) : AllT (idx3 n k) := by
  have h2 : decide (0 ≤ k ∧ k < n) = true := by simp; omega
  exact AllT.cons (by simpa using h1) (AllT.cons h2 (AllT.cons h2 AllT.nil))

/-! ### impl.ValidStove -/
noncomputable def skI : Sk := ⟨[(1, .c (.ptr 2 0)), (10, .c (.sl 1 0 18 false)), (11, .c (.int .i64)), (12, .c (.int .i64))], sgsI, 3⟩
noncomputable def skIR : Sk := ⟨[(2, .c (.boolc false))], sgs, 3⟩
noncomputable def skIE : Sk := ⟨[(1, .c (.ptr 2 0))], sgsI, 3⟩
noncomputable def NI : Nat := Tryd.f25.ntmps
noncomputable def goI (O : FOps) (vl : (Nat → Nat) → Bool) (a b : Bool) (sk : Sk) (F : Nat → Int → Nat) (G : Nat → Int → Int) (n k : Int) (x y z : Nat) (s t : Int) : Option (Option XK × List LD × List Bool) :=
  goL (cxV O vl) NI ⟨onV 13 18 a b, fun _ => none⟩ (bodyOf Tryd.f25 4) 3 60 skI [] sk [.i n, .i n, .i k, .i n, .r (Row F G), .i n, .f x, .f y, .i s, .i t, .f z]
set_option maxRecDepth 100000 in
theorem stI (O : FOps) (vl : (Nat → Nat) → Bool) (F : Nat → Int → Nat) (G : Nat → Int → Int) (n k : Int) (x y z : Nat) (s t : Int) : goI O vl true false skI F G n k x y z s t =
    some (none, [.i n, .i n, .i (IntKind.i64.wrap (k + 1)), .i n, .r (Row F G), .i n, .f x, .f y, .i s, .i t, .f z], idx3 n k ++ [!!(qV vl F k), flatR (Row F G)]) := by kernel_rfl
set_option maxRecDepth 100000 in
theorem reI (O : FOps) (vl : (Nat → Nat) → Bool) (F : Nat → Int → Nat) (G : Nat → Int → Int) (n k : Int) (x y z : Nat) (s t : Int) : goI O vl true true skIR F G n k x y z s t =
    some (some .ret, [.i n, .r (Row F G)], idx3 n k ++ [!(qV vl F k), flatR (Row F G)]) := by kernel_rfl
set_option maxRecDepth 100000 in
theorem enI (O : FOps) (vl : (Nat → Nat) → Bool) (F : Nat → Int → Nat) (G : Nat → Int → Int) (n k : Int) (x y z : Nat) (s t : Int) : goI O vl false true skIE F G n k x y z s t =
    some (some (.exit 0), [.i n, .r (Row F G), .i n, .f x, .f y, .i s, .i t, .f z], [!decide (k < n), flatR (Row F G)]) := by kernel_rfl
theorem loI (F : Nat → Int → Nat) (G : Nat → Int → Int) (n : Int) (hn : n ≤ 1048576) (x y z : Nat) (s t : Int) : ∀ (m : Nat) (k : Int), 0 ≤ k → k + m = n →
    (eqFrom (qV valid F) k m = true → Loops (cxV fops valid) NI (fun _ => none) (bodyOf Tryd.f25 4) 3 60 skI [.i n, .i n, .i k, .i n, .r (Row F G), .i n, .f x, .f y, .i s, .i t, .f z] (.exit 0) skIE [.i n, .r (Row F G), .i n, .f x, .f y, .i s, .i t, .f z]) ∧
    (eqFrom (qV valid F) k m = false → Loops (cxV fops valid) NI (fun _ => none) (bodyOf Tryd.f25 4) 3 60 skI [.i n, .i n, .i k, .i n, .r (Row F G), .i n, .f x, .f y, .i s, .i t, .f z] .ret skIR [.i n, .r (Row F G)]) := by
  have fl : AllT [flatR (Row F G)] := AllT.cons (rowK_flat _ _ _) AllT.nil
  intro m
  induction m with
  | zero =>
    intro k hk hkn
    have e : k = n := by omega
    subst e
    refine ⟨fun _ => .done (ts := onV 13 18 false true) (ρ := []) (enI fops valid F G k k x y z s t) (AllT.cons (by simp) fl), fun h => by cases h⟩
  | succ m ih =>
    intro k hk hkn
    have hlt : k < n := by omega
    obtain ⟨i1, i2⟩ := ih (k + 1) (by omega) (by omega)
    have hE : eqFrom (qV valid F) k (m + 1) = bif qV valid F k then eqFrom (qV valid F) (k + 1) m else false := rfl
    rw [hE]
    cases hq : qV valid F k with
    | true =>
      have h1 := stI fops valid F G n k x y z s t
      rw [wrap_succ hk (by omega)] at h1
      have ho : AllT (idx3 n k ++ [!!(qV valid F k), flatR (Row F G)]) := AllT.app (idx3_ok hk hlt) (AllT.cons (by rw [hq]; rfl) fl)
      exact ⟨fun h => .step (ts := onV 13 18 true false) (ρ := []) h1 ho (i1 h), fun h => .step (ts := onV 13 18 true false) (ρ := []) h1 ho (i2 h)⟩
    | false =>
      refine ⟨fun h => (by cases h), fun _ => .done (ts := onV 13 18 true true) (ρ := []) (reI fops valid F G n k x y z s t) (AllT.app (idx3_ok hk hlt) (AllT.cons (by rw [hq]; rfl) fl))⟩
def PreI (n m k n1 n2 : Int) (row : Int → List SC) : Prop := m = n ∧ k = 0 ∧ n1 = n ∧ n2 = n ∧ 0 ≤ n ∧ n ≤ 1048576 ∧ Shape ts row
noncomputable def FI (vl : (Nat → Nat) → Bool) : List LD → Option (XO × List Bool)
  | [.i n, .i m, .i k, .i n1, .r row, .i n2, .f x, .f y, .i s, .i t, .f z] => some ([(.s (!eqFrom (qV vl (datF row)) 0 n.toNat), .ret, skIR, [.i n, .r row]), (.t, .exit 0, skIE, [.i n, .r row, .i n, .f x, .f y, .i s, .i t, .f z])], [pB (PreI n m k n1 n2 row)])
  | _ => none
noncomputable def LI (O : FOps) (vl : (Nat → Nat) → Bool) : List Ly → Top → Option Outs := orIter (cxV O vl) NI (bodyOf Tryd.f25 4) (loopL NI 3 60 skI [] (FI vl))
set_option maxRecDepth 100000 in
theorem okI : CodeOK Tryd.prog NI (.loop (bodyOf Tryd.f25 4)) (LI fops valid) := by
  refine orIter_ok (l := LV fops valid) okLV mixed 8 (loopL_ok (cx := cxV fops valid) (lp := fun _ => none) (fun ts => body_ok (l := LV fops valid) okLV mixed 8 _ ts) fun p r hr hob => ?_)
  unfold FI at hr
  split at hr <;> cases hr
  rename_i n m k n1 row n2 x y s t z
  obtain ⟨e1, e2, e3, e4, h0, hm, hs⟩ := pB_iff.1 hob.head
  obtain ⟨h1, h2⟩ := loI (datF row) (datG row) n hm x y z s t n.toNat 0 (Int.le_refl _) (by omega)
  have hs1 : Row (datF row) (datG row) = row := hs.symm
  rw [hs1] at h1 h2
  rw [e1, e2, e3, e4]
  cases hq : eqFrom (qV valid (datF row)) 0 n.toNat with
  | true => exact ⟨_, _, _, by simp [pickX, SB.val], h1 hq⟩
  | false => exact ⟨_, _, _, by simp [pickX, SB.val], h2 hq⟩
/-- The contract of impl.ValidStove. -/
noncomputable def cIS (O : FOps) (vl : (Nat → Nat) → Bool) : CS := roS (canS (inl (cxV O vl) Tryd.f25 ⟨fun _ => none, lpOf [(4, LI O vl)]⟩))
set_option maxRecDepth 100000 in
theorem cI : CallOK Tryd.prog 25 (cIS fops valid) := by
  have hb : Tryd.f25.body.isSome = true := by kernel_rfl
  obtain ⟨c, hc⟩ := Option.isSome_iff_exists.1 hb
  have h1 : (match Tryd.f25.body with | some c => onceB (loopsIn c) && (match loopAt 4 (loopsIn c) with | some _ => true | none => false) | none => false) = true := by kernel_rfl
  rw [hc] at h1
  simp only [Bool.and_eq_true] at h1
  exact (inlL_of (l := LV fops valid) (ls := [(4, LI fops valid)]) okLV mixed 8 Tryd.func25 (by kernel_rfl) (fun _ => none) hc h1.1 ⟨⟨_, bodyOf_at hc h1.2, okI⟩, trivial⟩).can.ro
/-! ### spec.l02Ok -/
noncomputable def skS : Sk := ⟨[(0, .c (.ptr 2 0)), (3, .c (.int .i64))], [(1, ⟨false, false, .rows 18⟩), (2, ⟨false, false, .cells stK⟩)], 3⟩
noncomputable def skSR : Sk := ⟨[(2, .c (.boolc false))], sgs, 3⟩
noncomputable def skSE : Sk := ⟨[], sgs, 3⟩
noncomputable def NS : Nat := Tryd.f22.ntmps
noncomputable def goS (O : FOps) (vl : (Nat → Nat) → Bool) (a b : Bool) (sk : Sk) (F : Nat → Int → Nat) (G : Nat → Int → Int) (n k : Int) (x y z : Nat) (s t : Int) : Option (Option XK × List LD × List Bool) :=
  goL (cxV O vl) NS ⟨onV 71 81 a b, fun _ => none⟩ (bodyOf Tryd.f22 4) 3 60 skS [] sk [.i k, .i n, .r (Row F G), .i n, .f x, .f y, .i s, .i t, .f z]
set_option maxRecDepth 100000 in
theorem stS (O : FOps) (vl : (Nat → Nat) → Bool) (F : Nat → Int → Nat) (G : Nat → Int → Int) (n k : Int) (x y z : Nat) (s t : Int) : goS O vl true false skS F G n k x y z s t =
    some (none, [.i (IntKind.i64.wrap (k + 1)), .i n, .r (Row F G), .i n, .f x, .f y, .i s, .i t, .f z], idx3 n k ++ [!!(qV vl F k), flatR (Row F G)]) := by kernel_rfl
set_option maxRecDepth 100000 in
theorem reS (O : FOps) (vl : (Nat → Nat) → Bool) (F : Nat → Int → Nat) (G : Nat → Int → Int) (n k : Int) (x y z : Nat) (s t : Int) : goS O vl true true skSR F G n k x y z s t =
    some (some .ret, [.i n, .r (Row F G)], idx3 n k ++ [!(qV vl F k), flatR (Row F G)]) := by kernel_rfl
set_option maxRecDepth 100000 in
theorem enS (O : FOps) (vl : (Nat → Nat) → Bool) (F : Nat → Int → Nat) (G : Nat → Int → Int) (n k : Int) (x y z : Nat) (s t : Int) : goS O vl false true skSE F G n k x y z s t =
    some (some (.exit 0), [.i n, .r (Row F G)], [!decide (k < n), flatR (Row F G)]) := by kernel_rfl
theorem loS (F : Nat → Int → Nat) (G : Nat → Int → Int) (n : Int) (hn : n ≤ 1048576) (x y z : Nat) (s t : Int) : ∀ (m : Nat) (k : Int), 0 ≤ k → k + m = n →
    (eqFrom (qV valid F) k m = true → Loops (cxV fops valid) NS (fun _ => none) (bodyOf Tryd.f22 4) 3 60 skS [.i k, .i n, .r (Row F G), .i n, .f x, .f y, .i s, .i t, .f z] (.exit 0) skSE [.i n, .r (Row F G)]) ∧
    (eqFrom (qV valid F) k m = false → Loops (cxV fops valid) NS (fun _ => none) (bodyOf Tryd.f22 4) 3 60 skS [.i k, .i n, .r (Row F G), .i n, .f x, .f y, .i s, .i t, .f z] .ret skSR [.i n, .r (Row F G)]) := by
  have fl : AllT [flatR (Row F G)] := AllT.cons (rowK_flat _ _ _) AllT.nil
  intro m
  induction m with
  | zero =>
    intro k hk hkn
    have e : k = n := by omega
    subst e
    refine ⟨fun _ => .done (ts := onV 71 81 false true) (ρ := []) (enS fops valid F G k k x y z s t) (AllT.cons (by simp) fl), fun h => by cases h⟩
  | succ m ih =>
    intro k hk hkn
    have hlt : k < n := by omega
    obtain ⟨i1, i2⟩ := ih (k + 1) (by omega) (by omega)
    have hE : eqFrom (qV valid F) k (m + 1) = bif qV valid F k then eqFrom (qV valid F) (k + 1) m else false := rfl
    rw [hE]
    cases hq : qV valid F k with
    | true =>
      have h1 := stS fops valid F G n k x y z s t
      rw [wrap_succ hk (by omega)] at h1
      have ho : AllT (idx3 n k ++ [!!(qV valid F k), flatR (Row F G)]) := AllT.app (idx3_ok hk hlt) (AllT.cons (by rw [hq]; rfl) fl)
      exact ⟨fun h => .step (ts := onV 71 81 true false) (ρ := []) h1 ho (i1 h), fun h => .step (ts := onV 71 81 true false) (ρ := []) h1 ho (i2 h)⟩
    | false =>
      refine ⟨fun h => (by cases h), fun _ => .done (ts := onV 71 81 true true) (ρ := []) (reS fops valid F G n k x y z s t) (AllT.app (idx3_ok hk hlt) (AllT.cons (by rw [hq]; rfl) fl))⟩
def PreS (n m k n1 n2 : Int) (row : Int → List SC) : Prop := m = n ∧ k = 0 ∧ n1 = n ∧ n2 = n ∧ 0 ≤ n ∧ n ≤ 1048576 ∧ Shape ts row
noncomputable def FS (vl : (Nat → Nat) → Bool) : List LD → Option (XO × List Bool)
  | [.i k, .i n, .r row, .i m, .f x, .f y, .i s, .i t, .f z] => some ([(.s (!eqFrom (qV vl (datF row)) 0 n.toNat), .ret, skSR, [.i n, .r row]), (.t, .exit 0, skSE, [.i n, .r row])], [pB (PreS n m k n n row)])
  | _ => none
noncomputable def LS (O : FOps) (vl : (Nat → Nat) → Bool) : List Ly → Top → Option Outs := orIter (cxV O vl) NS (bodyOf Tryd.f22 4) (loopL NS 3 60 skS [] (FS vl))
set_option maxRecDepth 100000 in
theorem okS : CodeOK Tryd.prog NS (.loop (bodyOf Tryd.f22 4)) (LS fops valid) := by
  refine orIter_ok (l := LV fops valid) okLV mixed 8 (loopL_ok (cx := cxV fops valid) (lp := fun _ => none) (fun ts => body_ok (l := LV fops valid) okLV mixed 8 _ ts) fun p r hr hob => ?_)
  unfold FS at hr
  split at hr <;> cases hr
  rename_i k n row m x y s t z
  obtain ⟨e1, e2, e3, e4, h0, hm, hs⟩ := pB_iff.1 hob.head
  obtain ⟨h1, h2⟩ := loS (datF row) (datG row) n hm x y z s t n.toNat 0 (Int.le_refl _) (by omega)
  have hs1 : Row (datF row) (datG row) = row := hs.symm
  rw [hs1] at h1 h2
  rw [e1, e2]
  cases hq : eqFrom (qV valid (datF row)) 0 n.toNat with
  | true => exact ⟨_, _, _, by simp [pickX, SB.val], h1 hq⟩
  | false => exact ⟨_, _, _, by simp [pickX, SB.val], h2 hq⟩
/-- The contract of spec.l02Ok. -/
noncomputable def cSS (O : FOps) (vl : (Nat → Nat) → Bool) : CS := roS (canS (inl (cxV O vl) Tryd.f22 ⟨fun _ => none, lpOf [(4, LS O vl)]⟩))
set_option maxRecDepth 100000 in
theorem cS : CallOK Tryd.prog 22 (cSS fops valid) := by
  have hb : Tryd.f22.body.isSome = true := by kernel_rfl
  obtain ⟨c, hc⟩ := Option.isSome_iff_exists.1 hb
  have h1 : (match Tryd.f22.body with | some c => onceB (loopsIn c) && (match loopAt 4 (loopsIn c) with | some _ => true | none => false) | none => false) = true := by kernel_rfl
  rw [hc] at h1
  simp only [Bool.and_eq_true] at h1
  exact (inlL_of (l := LV fops valid) (ls := [(4, LS fops valid)]) okLV mixed 8 Tryd.func22 (by kernel_rfl) (fun _ => none) hc h1.1 ⟨⟨_, bodyOf_at hc h1.2, okS⟩, trivial⟩).can.ro
end Go.Proofs.YtaodbpejeglmlaaDoor.Stv
