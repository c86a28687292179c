/- The law of IsAlight: what its text computes, with any number of logs. Nothing is assumed. -/
import Derived.Test.YtngdmcbjponlhaaAly
namespace Go.Proofs.Ytngdmcbjponlhaa.Ial
open Go SlWood Stv Sto Aly
noncomputable section
noncomputable def hLaw : List (Nat × Bool) := [(13, false), (34, false), (39, false)]
noncomputable def L3 (O : FOps) (vl : (Nat → Nat) → Bool) (_ : Unit) : List (Nat × CS) := (65, aC O) :: (64, aCS O) :: LW O vl
set_option maxRecDepth 100000 in
theorem okL3 (u : Unit) : AllOK Try.prog (L3 fops valid u) := ⟨cAC, cACS, okLW⟩
noncomputable def run (O : FOps) (vl : (Nat → Nat) → Bool) (u : Unit) (hl : List (Nat × Bool)) (v : SV) (rd : List (Nat × Seg)) : Option (SV × List Bool) :=
  rE 2 (inl ⟨Try.prog, O, orcN Try.prog O (L3 O vl u) 8⟩ Try.f6 ⟨hint hl, fun _ => none⟩ 2 [v] rd)
noncomputable def lit (s : Int) (A : Bool) : Bool := bif decide (s = 1) then true else bif decide (s = 2) then true else A
noncomputable def val (V : Bool) (s : Int) (A : Bool) : Bool := bif !V then false else lit s A
noncomputable def cod (V : Bool) : Int := bif !V then 1 else 0
noncomputable def sB (O : FOps) (vl : (Nat → Nat) → Bool) (R : Int → List SC) (n : Int) (a b : Nat) (s t : Int) (c : Nat) : List Bool :=
  oV n s R ++ gdB (!vR O vl n R a b s t c) (gdB (decide (s = 1)) (gdB (decide (s = 2)) [flatR R, okN n n R]))
noncomputable def tB (x y : Bool) (c d : Int) : Bool := bif !(x == y) then true else !decide (c = d)
noncomputable def ob (O : FOps) (vl : (Nat → Nat) → Bool) (F : Nat → Int → Nat) (G : Nat → Int → Int) (n : Int) (a b : Nat) (s t : Int) (c : Nat) : List Bool :=
  [!decide (lf n < 0)] ++ (oC F G n ++ sB O vl (R1 F G n) n a b s t c) ++ (oC F G n ++ sB O vl (R1 F G n) n a b s t c) ++
  [!tB (val (vR O vl n (R1 F G n) a b s t c) s (aR O n (R1 F G n))) (val (vR O vl n (R1 F G n) a b s t c) s (aR O n (R1 F G n))) (cod (vR O vl n (R1 F G n) a b s t c)) (cod (vR O vl n (R1 F G n) a b s t c))] ++
  oC F G n ++ oE n (R1 F G n) (R1 F G n) ++ [!!eqT O (eqR O n n (R1 F G n) (R1 F G n)) a b s t c]
set_option maxRecDepth 100000 in
theorem run_ok (O : FOps) (vl : (Nat → Nat) → Bool) (F : Nat → Int → Nat) (G : Nat → Int → Int) (n : Int) (a b : Nat) (s t : Int) (c : Nat) :
    run O vl () hLaw (stA n a b s t c) [(1, ⟨false, false, .rows 18 n (Row F G)⟩)] = some (.c (.bool .t), ob O vl F G n a b s t c) := by kernel_rfl
set_option maxRecDepth 100000 in
theorem run_big (O : FOps) (vl : (Nat → Nat) → Bool) (F : Nat → Int → Nat) (G : Nat → Int → Int) (n : Int) (a b : Nat) (s t : Int) (c : Nat) :
    run O vl () [(13, true)] (stA n a b s t c) [(1, ⟨false, false, .rows 18 n (Row F G)⟩)] = some (.c (.bool .t), [decide (lf n < 0)]) := by kernel_rfl
set_option maxRecDepth 100000 in
theorem run0_ok (O : FOps) (vl : (Nat → Nat) → Bool) (a b : Nat) (s t : Int) (c : Nat) :
    run O vl () hLaw (st0 a b s t c) [] = some (.c (.bool .t), [!tB (val (vI O true 0 a b s t c) s false) (val (vS O true 0 a b s t c) s false) (cod (vI O true 0 a b s t c)) (cod (vS O true 0 a b s t c)), !!eqT O true a b s t c]) := by kernel_rfl
theorem tB_false (x : Bool) (c : Int) : tB x x c c = false := by unfold tB; simp
theorem law_all (F : Nat → Int → Nat) (G : Nat → Int → Int) {n : Int} (h0 : 0 ≤ n) (hmax : n ≤ 9223372036854775807) (a b : Nat) {s : Int} (hs : -128 ≤ s ∧ s ≤ 127) (t : Int) (c : Nat) :
    ∃ h hl o, run fops valid h hl (stA n a b s t c) [(1, ⟨false, false, .rows 18 n (Row F G)⟩)] = some (.c (.bool .t), o) ∧ AllT o := by
  by_cases hbig : 1048576 < n
  · exact ⟨_, _, _, run_big fops valid F G n a b s t c, AllT.one (lf_big hbig hmax)⟩
  · have h1 : n ≤ 1048576 := by omega
    have hr := r1_shape F G n
    have hS : AllT (sB fops valid (R1 F G n) n a b s t c) := AllT.app (oV_ok hr h0 h1 hs) (gdB_ok fun _ => gdB_ok fun _ => gdB_ok fun _ => AllT.cons (shape_flat hr) (AllT.one (pB_iff.2 ⟨rfl, h0, h1, hr⟩)))
    have cc := oC_ok F G h0 h1
    have e := oE_ok hr hr h0 h1
    refine ⟨_, _, _, run_ok fops valid F G n a b s t c, ?_⟩
    unfold ob
    rw [tB_false, eqT_q, lf_small h0 h1]
    simp only [AllT.iff_app]
    exact ⟨⟨⟨⟨⟨⟨AllT.one rfl, cc, hS⟩, cc, hS⟩, AllT.one rfl⟩, cc⟩, e⟩, AllT.one rfl⟩
theorem law_all0 (a b : Nat) {s : Int} (hs : -128 ≤ s ∧ s ≤ 127) (t : Int) (c : Nat) : ∃ h hl o, run fops valid h hl (st0 a b s t c) [] = some (.c (.bool .t), o) ∧ AllT o := by
  refine ⟨_, _, _, run0_ok fops valid a b s t c, ?_⟩
  rw [v0_eq a b hs t c, tB_false, eqT_true rfl]
  exact AllT.cons rfl (AllT.one rfl)
end
end Go.Proofs.Ytngdmcbjponlhaa.Ial
