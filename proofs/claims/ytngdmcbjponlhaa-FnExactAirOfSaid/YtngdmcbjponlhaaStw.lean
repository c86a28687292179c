/- The law of ValidStove: what its text computes, with any number of logs. Nothing is assumed. -/
import Derived.Test.YtngdmcbjponlhaaStv
import Derived.Test.YtngdmcbjponlhaaLw
import Derived.Test.YtngdmcbjponlhaaHp
namespace Go.Proofs.Ytngdmcbjponlhaa.Stw
open Go SlWood Stv
noncomputable section
def LW (O : FOps) (vl : (Nat → Nat) → Bool) : List (Nat × CS) := [(61, amtS), (66, amtS), (108, absS), (31, gS (sfG O)), (53, toS O), (56, eqS O), (22, cIS O vl), (57, cSS O vl)]
set_option maxRecDepth 100000 in
theorem okLW : AllOK Try.prog (LW fops valid) := ⟨cAmtI, cAmtL, cAbs, cSf, cTo, cEqS, cI, cS, trivial⟩
def stA (n : Int) (a b : Nat) (s t : Int) (c : Nat) : SV := .a [.sl 1 0 18 (.s n) false, .flt .f32 a, .flt .f32 b, .int .i8 (.s s), .int .i64 (.s t), .flt .f32 c]
def shr (O : FOps) (b : Nat) : Bool := bif decide (b < 2139095040) then O.cmp .leq .f32 b 1065353216 else false
def vI (O : FOps) (Q : Bool) (n : Int) (a b : Nat) (s t : Int) (c : Nat) : Bool :=
  bif decide (6 < n) then false else bif !Q then false else bif (bif O.cmp .geq .f32 a 3262119936 then O.cmp .leq .f32 a 1153138688 else false) then bif shr O b then
  bif decide (0 ≤ s) then bif decide (s ≤ 3) then bif decide (0 ≤ t) then bif decide (t ≤ 1000000) then bif decide (c < 2139095040) then O.cmp .lss .f32 c 1065353216
  else false else false else false else false else false else false else false
def bad (O : FOps) (n : Int) (a b : Nat) (s t : Int) (c : Nat) : Bool :=
  bif decide (6 < n) then true else bif O.cmp .geq .f32 a 3262119936 then bif !O.cmp .leq .f32 a 1153138688 then true else bif !shr O b then true else
  bif !(bif decide (0 ≤ IntKind.i64.wrap s) then decide (IntKind.i64.wrap s ≤ 3) else false) then true else
  bif !(bif decide (0 ≤ t) then decide (t ≤ 1000000) else false) then true else bif !decide (c < 2139095040) then true else O.cmp .geq .f32 c 1065353216 else true
def vS (O : FOps) (Q : Bool) (n : Int) (a b : Nat) (s t : Int) (c : Nat) : Bool := bif bad O n a b s t c then false else bif !Q then false else true
/-- The rows of a copy. -/
def R' (F : Nat → Int → Nat) (G : Nat → Int → Int) (n : Int) : Int → List SC := Row (clF n (datF (Row F G))) (clG n (datG (Row F G)))
def Q1 (vl : (Nat → Nat) → Bool) (F : Nat → Int → Nat) (G : Nat → Int → Int) (n : Int) : Bool := eqFrom (qV vl (datF (R' F G n))) 0 n.toNat
def Q2 (O : FOps) (F : Nat → Int → Nat) (G : Nat → Int → Int) (n : Int) : Bool := eqFrom (q O (datF (R' F G n)) (datG (R' F G n)) (datF (R' F G n)) (datG (R' F G n))) 0 n.toNat
def sfc (O : FOps) (a : Nat) : Bool := sf O (O.conv .f32 .f64 a) (O.conv .f32 .f64 a)
def eqV (O : FOps) (q2 : Bool) (n : Int) (a b : Nat) (s t : Int) (c : Nat) : Bool :=
  bif !(bif !decide (n = n) then false else bif !q2 then false else true) then false else bif !sfc O a then false else bif !sfc O b then false else bif !decide (s = s) then false else bif !decide (t = t) then false else bif !sfc O c then false else true
def lf (n : Int) : Int := bif decide ((bif decide (IntKind.i64.wrap (1048576 - n) < 0) then (-1 : Int) else IntKind.i64.wrap (1048576 - n)) < 0) then -1 else bif decide (IntKind.i64.wrap (1048576 - n) < 0) then -1 else IntKind.i64.wrap (1048576 - n)
def Z0 : Int → List SC := Row (fun _ _ => 0) (fun _ _ => 0)
/-- What a copy asks for. -/
def obT (F : Nat → Int → Nat) (G : Nat → Int → Int) (n : Int) : List Bool := [flatR (Row F G), decide (n = n ∧ 0 ≤ n ∧ n ≤ 100000000), flatR (Row F G), flatR Z0, pB (PreT n n 0 n (Row F G) n Z0), flatR (R' F G n)]
def gd (g : Bool) (l : List Bool) : List Bool := l.map (g || ·)
def obs (O : FOps) (vl : (Nat → Nat) → Bool) (F : Nat → Int → Nat) (G : Nat → Int → Int) (n : Int) (a b : Nat) (s t : Int) (c : Nat) : List Bool :=
  [!decide (lf n < 0), flatR (Row F G), flatR (R' F G n)] ++ obT F G n ++
  gd (bad O n a b s t c) [flatR (R' F G n), pB (PreS n n 0 n n (R' F G n))] ++ [flatR (Row F G), flatR (R' F G n)] ++ obT F G n ++
  gd (decide (6 < n)) [flatR (R' F G n), pB (PreI n n 0 n n (R' F G n))] ++
  gd (!(vI O (Q1 vl F G n) n a b s t c == vS O (Q1 vl F G n) n a b s t c)) ([flatR (Row F G), flatR (R' F G n)] ++ obT F G n ++ [flatR (R' F G n)] ++
    gd (!decide (n = n)) [flatR (R' F G n), flatR (R' F G n), pB (PreQ n n 0 n (R' F G n) n (R' F G n))])
def run (O : FOps) (vl : (Nat → Nat) → Bool) (h : Bool) (F : Nat → Int → Nat) (G : Nat → Int → Int) (n : Int) (a b : Nat) (s t : Int) (c : Nat) : Option (SV × List Bool) :=
  rE 2 (inl ⟨Try.prog, O, orcN Try.prog O (LW O vl) 8⟩ Try.f4 ⟨fun t => bif Nat.beq t 11 then some h else none, fun _ => none⟩ 2 [stA n a b s t c] [(1, ⟨false, false, .rows 18 n (Row F G)⟩)])
set_option maxRecDepth 100000 in
theorem run_big (O : FOps) (vl : (Nat → Nat) → Bool) (F : Nat → Int → Nat) (G : Nat → Int → Int) (n : Int) (a b : Nat) (s t : Int) (c : Nat) : run O vl true F G n a b s t c = some (.c (.bool .t), [decide (lf n < 0)]) := by kernel_rfl
set_option maxRecDepth 100000 in
theorem run_val (O : FOps) (vl : (Nat → Nat) → Bool) (F : Nat → Int → Nat) (G : Nat → Int → Int) (n : Int) (a b : Nat) (s t : Int) (c : Nat) : (run O vl false F G n a b s t c).map (·.1) =
    some (.c (.bool (.s (bif !(vI O (Q1 vl F G n) n a b s t c == vS O (Q1 vl F G n) n a b s t c) then false else bif !eqV O (Q2 O F G n) n a b s t c then false else true)))) := by kernel_rfl
set_option maxRecDepth 100000 in
theorem run_obs (O : FOps) (vl : (Nat → Nat) → Bool) (F : Nat → Int → Nat) (G : Nat → Int → Int) (n : Int) (a b : Nat) (s t : Int) (c : Nat) : (match run O vl false F G n a b s t c with | some r => r.2 | none => []) = obs O vl F G n a b s t c := by kernel_rfl
theorem wrap_in {x : Int} (h0 : -9223372036854775808 ≤ x) (h1 : x < 9223372036854775808) : IntKind.i64.wrap x = x := by
  unfold IntKind.wrap
  have hb : IntKind.bits IntKind.i64 = 64 := rfl
  have hs : IntKind.signed IntKind.i64 = true := rfl
  rw [hb, hs]
  by_cases hx : 0 ≤ x
  · have e : x % 2 ^ 64 = x := Int.emod_eq_of_lt hx (by omega)
    rw [e]
    simp; omega
  · have e : x % 2 ^ 64 = x + 18446744073709551616 := by omega
    rw [e]
    simp; omega
theorem lf_small {n : Int} (h0 : 0 ≤ n) (h1 : n ≤ 1048576) : decide (lf n < 0) = false := by
  unfold lf
  rw [wrap_in (by omega) (by omega)]
  have e : decide (1048576 - n < 0) = false := by simp; omega
  rw [e]
  simp [e]
theorem lf_big {n : Int} (h0 : 1048576 < n) (h1 : n ≤ 9223372036854775807) : decide (lf n < 0) = true := by
  unfold lf
  rw [wrap_in (by omega) (by omega)]
  have e : decide (1048576 - n < 0) = true := by simp; omega
  rw [e]
  simp
theorem gd_ok {g : Bool} {l : List Bool} (h : AllT l) : AllT (gd g l) := by
  unfold gd
  induction l with
  | nil => exact AllT.nil
  | cons x l ih => exact AllT.cons (by rw [h.head]; simp) (ih h.tail)
theorem obT_ok (F : Nat → Int → Nat) (G : Nat → Int → Int) {n : Int} (h0 : 0 ≤ n) (h1 : n ≤ 1048576) : AllT (obT F G n) :=
  AllT.cons (rowK_flat _ _ _) (AllT.cons (by simp; omega) (AllT.cons (rowK_flat _ _ _) (AllT.cons (rowK_flat _ _ _) (AllT.cons (pB_iff.2 ⟨rfl, rfl, rfl, rfl, h0, h1, shape_row F G, rfl⟩) (AllT.cons (rowK_flat _ _ _) AllT.nil)))))
theorem obs_ok (F : Nat → Int → Nat) (G : Nat → Int → Int) {n : Int} (h0 : 0 ≤ n) (h1 : n ≤ 1048576) (a b : Nat) (s t : Int) (c : Nat) : AllT (obs fops valid F G n a b s t c) := by
  have f1 : flatR (Row F G) = true := rowK_flat _ _ _
  have f2 : flatR (R' F G n) = true := rowK_flat _ _ _
  have hs : Shape ts (R' F G n) := shape_row _ _
  unfold obs
  refine AllT.app (AllT.app (AllT.app (AllT.app (AllT.app (AllT.app ?_ (obT_ok F G h0 h1)) ?_) ?_) (obT_ok F G h0 h1)) ?_) ?_
  · exact AllT.cons (by rw [lf_small h0 h1]; rfl) (AllT.cons f1 (AllT.cons f2 AllT.nil))
  · exact gd_ok (AllT.cons f2 (AllT.cons (pB_iff.2 ⟨rfl, rfl, rfl, rfl, h0, h1, hs⟩) AllT.nil))
  · exact AllT.cons f1 (AllT.cons f2 AllT.nil)
  · exact gd_ok (AllT.cons f2 (AllT.cons (pB_iff.2 ⟨rfl, rfl, rfl, rfl, h0, h1, hs⟩) AllT.nil))
  · refine gd_ok (AllT.app (AllT.app (AllT.app (AllT.cons f1 (AllT.cons f2 AllT.nil)) (obT_ok F G h0 h1)) (AllT.cons f2 AllT.nil)) (gd_ok (AllT.cons f2 (AllT.cons f2 (AllT.cons (pB_iff.2 ⟨rfl, rfl, rfl, rfl, h0, h1, hs, hs⟩) AllT.nil)))))
theorem geq_lss {c : Nat} (h : c < 2139095040) : fops.cmp .geq .f32 c 1065353216 = !fops.cmp .lss .f32 c 1065353216 := by
  rw [cmp_geq, cmp_lss, nan_small h, nan_small (show 1065353216 < 2139095040 by decide)]
  simp only [Bool.not_false, Bool.true_and]
  by_cases hk : key .f32 c < key .f32 1065353216
  · simp [hk]
  · simp [hk]; omega
theorem v_eq (Q : Bool) (n : Int) (a b : Nat) {s : Int} (hs : -128 ≤ s ∧ s ≤ 127) (t : Int) (c : Nat) : vS fops Q n a b s t c = vI fops Q n a b s t c := by
  unfold vS vI bad
  rw [wrap_in (by omega) (by omega)]
  cases hc : decide (c < 2139095040) with
  | true =>
    rw [geq_lss (of_decide_eq_true hc)]
    cases decide (6 < n) <;> cases Q <;> cases fops.cmp .geq .f32 a 3262119936 <;> cases fops.cmp .leq .f32 a 1153138688 <;> cases shr fops b <;> cases decide (0 ≤ s) <;> cases decide (s ≤ 3) <;> cases decide (0 ≤ t) <;> cases decide (t ≤ 1000000) <;> cases fops.cmp .lss .f32 c 1065353216 <;> rfl
  | false =>
    cases decide (6 < n) <;> cases Q <;> cases fops.cmp .geq .f32 a 3262119936 <;> cases fops.cmp .leq .f32 a 1153138688 <;> cases shr fops b <;> cases decide (0 ≤ s) <;> cases decide (s ≤ 3) <;> cases decide (0 ≤ t) <;> cases decide (t ≤ 1000000) <;> rfl
theorem eqV_true {q2 : Bool} (hq : q2 = true) (n : Int) (a b : Nat) (s t : Int) (c : Nat) : eqV fops q2 n a b s t c = true := by
  unfold eqV sfc
  rw [hq]
  simp [sf_self]
def B (Q q2 : Bool) (n : Int) (a b : Nat) (s t : Int) (c : Nat) : Bool := bif !(vI fops Q n a b s t c == vS fops Q n a b s t c) then false else bif !eqV fops q2 n a b s t c then false else true
theorem B_true (Q : Bool) {q2 : Bool} (hq : q2 = true) (n : Int) (a b : Nat) {s : Int} (hs : -128 ≤ s ∧ s ≤ 127) (t : Int) (c : Nat) : B Q q2 n a b s t c = true := by
  unfold B
  rw [v_eq Q n a b hs, eqV_true hq]
  simp
def L0 (O : FOps) : List (Nat × CS) := [(61, amtS), (66, amtS), (108, absS), (31, gS (sfG O))]
set_option maxRecDepth 100000 in
theorem okL0 : AllOK Try.prog (L0 fops) := ⟨cAmtI, cAmtL, cAbs, cSf, trivial⟩
def run0 (O : FOps) (a b : Nat) (s t : Int) (c : Nat) : Option (SV × List Bool) :=
  rE 2 (inl ⟨Try.prog, O, orcN Try.prog O (L0 O) 8⟩ Try.f4 ⟨fun _ => none, fun _ => none⟩ 2 [.a [.sl 1 0 18 (.c 0) false, .flt .f32 a, .flt .f32 b, .int .i8 (.s s), .int .i64 (.s t), .flt .f32 c]] [])
set_option maxRecDepth 100000 in
theorem run0_eq (O : FOps) (a b : Nat) (s t : Int) (c : Nat) : run0 O a b s t c =
    some (.c (.bool (.s (bif !(vI O true 0 a b s t c == vS O true 0 a b s t c) then false else bif !eqV O true 0 a b s t c then false else true))), []) := by kernel_rfl
end
end Go.Proofs.Ytngdmcbjponlhaa.Stw
