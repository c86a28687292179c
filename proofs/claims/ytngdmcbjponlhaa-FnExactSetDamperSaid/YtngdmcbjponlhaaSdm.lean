/- The law of SetDamper: what its text computes, with any number of logs. Nothing is assumed. -/
import Derived.Test.YtngdmcbjponlhaaSto
namespace Go.Proofs.Ytngdmcbjponlhaa.Sdm
open Go SlWood Stv Sto
noncomputable section
def hOK : List (Nat × Bool) := [(8, false), (12, false)]
def hErr : List (Nat × Bool) := [(12, true)]
def hLaw : List (Nat × Bool) := [(20, false), (44, false), (49, false), (65, false), (73, false), (76, false), (92, false), (97, false), (100, false)]
def cIh (O : FOps) (vl : (Nat → Nat) → Bool) (h : List (Nat × Bool)) : CS := inl (cxW O vl) Try.f39 ⟨hint h, fun _ => none⟩
def cSh (O : FOps) (vl : (Nat → Nat) → Bool) (h : List (Nat × Bool)) : CS := inl (cxW O vl) Try.f38 ⟨hint h, fun _ => none⟩
def L3 (O : FOps) (vl : (Nat → Nat) → Bool) (h : List (Nat × Bool)) : List (Nat × CS) := (39, cIh O vl h) :: (38, cSh O vl h) :: LW O vl
set_option maxRecDepth 100000 in
theorem okL3 (h : List (Nat × Bool)) : AllOK Try.prog (L3 fops valid h) :=
  ⟨inlN_of (l := LW fops valid) okLW mixed 8 Try.func39 (by kernel_rfl) _, inlN_of (l := LW fops valid) okLW mixed 8 Try.func38 (by kernel_rfl) _, okLW⟩
def run (O : FOps) (vl : (Nat → Nat) → Bool) (h hl : List (Nat × Bool)) (v : SV) (rd : List (Nat × Seg)) (d : Nat) : Option (SV × List Bool) :=
  rE 2 (inl ⟨Try.prog, O, orcN Try.prog O (L3 O vl h) 8⟩ Try.f10 ⟨hint hl, fun _ => none⟩ 2 [v, .c (.flt .f32 d)] rd)
def shr' (O : FOps) (d : Nat) : Bool := bif decide (d < 2139095040) then O.cmp .leq .f32 d 1065353216 else false
def sOK (O : FOps) (vl : (Nat → Nat) → Bool) (R : Int → List SC) (n : Int) (a b : Nat) (s t : Int) (c d : Nat) : List Bool := oV n s R ++ [!!vR O vl n R a b s t c, !!shr' O d] ++ oA n
def tOK (E : Bool) : Bool := bif !E then true else false
set_option maxRecDepth 100000 in
theorem run_ok (O : FOps) (vl : (Nat → Nat) → Bool) (F : Nat → Int → Nat) (G : Nat → Int → Int) (n : Int) (a b : Nat) (s t : Int) (c d : Nat) :
    run O vl hOK hLaw (stA n a b s t c) [(1, ⟨false, false, .rows 18 n (Row F G)⟩)] d = some (.c (.bool .t), obG O F G n (sOK O vl (R1 F G n) n a b s t c d) (sOK O vl (R1 F G n) n a b s t c d) n (R1 F G n) (R1 F G n) (tOK (eqT O (eqR O n n (R1 F G n) (R1 F G n)) a d s t c)) (eqT O (eqR O n n (R1 F G n) (R1 F G n)) a b s t c)) := by kernel_rfl
def cde (V : Bool) : Int := bif !V then 1 else 2
def zf (V : Bool) : Nat := bif !V then 0 else 0
def tz (O : FOps) (V W : Bool) : Bool := bif !eqT0 O (zf V) (zf W) then true else !decide (cde V = cde W)
def sErr (O : FOps) (vl : (Nat → Nat) → Bool) (R : Int → List SC) (n : Int) (a b : Nat) (s t : Int) (c d : Nat) : List Bool := oV n s R ++ gdB (!vR O vl n R a b s t c) [!shr' O d]
set_option maxRecDepth 100000 in
theorem run_err (O : FOps) (vl : (Nat → Nat) → Bool) (F : Nat → Int → Nat) (G : Nat → Int → Int) (n : Int) (a b : Nat) (s t : Int) (c d : Nat) :
    run O vl hErr hLaw (stA n a b s t c) [(1, ⟨false, false, .rows 18 n (Row F G)⟩)] d = some (.c (.bool .t), obGe O F G n (sErr O vl (R1 F G n) n a b s t c d) (sErr O vl (R1 F G n) n a b s t c d) (tz O (vR O vl n (R1 F G n) a b s t c) (vR O vl n (R1 F G n) a b s t c)) (eqT O (eqR O n n (R1 F G n) (R1 F G n)) a b s t c)) := by kernel_rfl
set_option maxRecDepth 100000 in
theorem run_big (O : FOps) (vl : (Nat → Nat) → Bool) (F : Nat → Int → Nat) (G : Nat → Int → Int) (n : Int) (a b : Nat) (s t : Int) (c d : Nat) :
    run O vl hOK [(20, true)] (stA n a b s t c) [(1, ⟨false, false, .rows 18 n (Row F G)⟩)] d = some (.c (.bool .t), [decide (lf n < 0)]) := by kernel_rfl
set_option maxRecDepth 100000 in
theorem run0_ok (O : FOps) (vl : (Nat → Nat) → Bool) (a b : Nat) (s t : Int) (c d : Nat) :
    run O vl hOK hLaw (st0 a b s t c) [] d = some (.c (.bool .t), ob0 [!!vS O true 0 a b s t c, !!shr' O d] [!!vI O true 0 a b s t c, !!shr' O d] (tOK (eqT O true a d s t c)) (eqT O true a b s t c)) := by kernel_rfl
set_option maxRecDepth 100000 in
theorem run0_err (O : FOps) (vl : (Nat → Nat) → Bool) (a b : Nat) (s t : Int) (c d : Nat) :
    run O vl hErr hLaw (st0 a b s t c) [] d = some (.c (.bool .t), ob0 (gdB (!vS O true 0 a b s t c) [!shr' O d]) (gdB (!vI O true 0 a b s t c) [!shr' O d]) (tz O (vI O true 0 a b s t c) (vS O true 0 a b s t c)) (eqT O true a b s t c)) := by kernel_rfl
theorem tz_false (V : Bool) : tz fops V V = false := by
  unfold tz
  rw [eqT0_true]
  simp
theorem law_all (F : Nat → Int → Nat) (G : Nat → Int → Int) {n : Int} (h0 : 0 ≤ n) (hmax : n ≤ 9223372036854775807) (a b : Nat) {s : Int} (hs : -128 ≤ s ∧ s ≤ 127) (t : Int) (c d : Nat) :
    ∃ h hl ob, run fops valid h hl (stA n a b s t c) [(1, ⟨false, false, .rows 18 n (Row F G)⟩)] d = some (.c (.bool .t), ob) ∧ AllT ob := by
  by_cases hbig : 1048576 < n
  · exact ⟨_, _, _, run_big fops valid F G n a b s t c d, AllT.one (lf_big hbig hmax)⟩
  · have h1 : n ≤ 1048576 := by omega
    have hv := oV_ok (r1_shape F G n) h0 h1 hs
    cases hV : vR fops valid n (R1 F G n) a b s t c with
    | false =>
      have hS : AllT (sErr fops valid (R1 F G n) n a b s t c d) := by unfold sErr; exact AllT.app hv (gd1 fun e => by rw [hV] at e; cases e)
      exact ⟨_, _, _, run_err fops valid F G n a b s t c d, obGe_ok F G h0 h1 hS hS (tz_false _) (eqT_q _ _ _ _ _ _ _)⟩
    | true =>
      cases hd : shr' fops d with
      | false =>
        have hS : AllT (sErr fops valid (R1 F G n) n a b s t c d) := by unfold sErr; exact AllT.app hv (gd1 fun _ => by rw [hd]; rfl)
        exact ⟨_, _, _, run_err fops valid F G n a b s t c d, obGe_ok F G h0 h1 hS hS (tz_false _) (eqT_q _ _ _ _ _ _ _)⟩
      | true =>
        have hS : AllT (sOK fops valid (R1 F G n) n a b s t c d) := by unfold sOK; exact AllT.app (AllT.app hv (AllT.cons (nn hV) (AllT.one (nn hd)))) (oA_ok h0 (vR_six hV))
        exact ⟨_, _, _, run_ok fops valid F G n a b s t c d, obG_ok F G h0 h1 hS hS h0 h1 (r1_shape F G n) (r1_shape F G n) (by unfold tOK; rw [eqT_q]; rfl) (eqT_q _ _ _ _ _ _ _)⟩
theorem law_all0 (a b : Nat) {s : Int} (hs : -128 ≤ s ∧ s ≤ 127) (t : Int) (c d : Nat) : ∃ h hl ob, run fops valid h hl (st0 a b s t c) [] d = some (.c (.bool .t), ob) ∧ AllT ob := by
  have hv := v0_eq a b hs t c
  cases hV : vI fops true 0 a b s t c with
  | false =>
    have hW := hv.trans hV
    exact ⟨_, _, _, run0_err fops valid a b s t c d, ob0_ok (gd1 fun e => by rw [hW] at e; cases e) (gd1 fun e => by rw [hV] at e; cases e) (by rw [hv]; exact tz_false _) (eqT_true rfl _ _ _ _ _)⟩
  | true =>
    have hW := hv.trans hV
    cases hd : shr' fops d with
    | false => exact ⟨_, _, _, run0_err fops valid a b s t c d, ob0_ok (gd1 fun _ => by rw [hd]; rfl) (gd1 fun _ => by rw [hd]; rfl) (by rw [hv]; exact tz_false _) (eqT_true rfl _ _ _ _ _)⟩
    | true => exact ⟨_, _, _, run0_ok fops valid a b s t c d, ob0_ok (AllT.cons (nn hW) (AllT.one (nn hd))) (AllT.cons (nn hV) (AllT.one (nn hd))) (by unfold tOK; rw [eqT_true rfl]; rfl) (eqT_true rfl _ _ _ _ _)⟩
end
end Go.Proofs.Ytngdmcbjponlhaa.Sdm
