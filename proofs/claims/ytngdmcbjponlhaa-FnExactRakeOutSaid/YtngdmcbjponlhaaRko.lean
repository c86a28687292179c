/- The law of RakeOut: what its text computes, with any number of logs. Nothing is assumed. -/
import Derived.Test.YtngdmcbjponlhaaSto
namespace Go.Proofs.Ytngdmcbjponlhaa.Rko
open Go SlWood Stv Sto
noncomputable section
abbrev HH := List (Nat × Bool) × List (Nat × Bool)
def hOK : HH := ([(6, false), (11, false)], [(7, false), (11, false)])
def hErr : HH := ([(11, true)], [(11, true)])
def hLaw : List (Nat × Bool) := [(21, false), (50, false), (55, false), (76, false), (84, false), (87, false), (108, false), (113, false), (116, false)]
def cIh (O : FOps) (vl : (Nat → Nat) → Bool) (h : HH) : CS := inl (cxW O vl) Try.f41 ⟨hint h.1, fun _ => none⟩
def cSh (O : FOps) (vl : (Nat → Nat) → Bool) (h : HH) : CS := inl (cxW O vl) Try.f40 ⟨hint h.2, fun _ => none⟩
def L3 (O : FOps) (vl : (Nat → Nat) → Bool) (h : HH) : List (Nat × CS) := (41, cIh O vl h) :: (40, cSh O vl h) :: LW O vl
set_option maxRecDepth 100000 in
theorem okL3 (h : HH) : AllOK Try.prog (L3 fops valid h) :=
  ⟨inlN_of (l := LW fops valid) okLW mixed 8 Try.func41 (by kernel_rfl) _, inlN_of (l := LW fops valid) okLW mixed 8 Try.func40 (by kernel_rfl) _, okLW⟩
def run (O : FOps) (vl : (Nat → Nat) → Bool) (h : HH) (hl : List (Nat × Bool)) (v : SV) (rd : List (Nat × Seg)) : Option (SV × List Bool) :=
  rE 2 (inl ⟨Try.prog, O, orcN Try.prog O (L3 O vl h) 8⟩ Try.f11 ⟨hint hl, fun _ => none⟩ 2 [v] rd)
def cold (s : Int) : Bool := decide (s = 0)
def sOK (O : FOps) (vl : (Nat → Nat) → Bool) (R : Int → List SC) (n : Int) (a b : Nat) (s t : Int) (c : Nat) : List Bool := oV n s R ++ [!!vR O vl n R a b s t c, !!cold s] ++ oA n
def tOK (E : Bool) (t : Int) : Bool := bif !E then true else bif !decide (t = t) then true else false
set_option maxRecDepth 100000 in
theorem run_ok (O : FOps) (vl : (Nat → Nat) → Bool) (F : Nat → Int → Nat) (G : Nat → Int → Int) (n : Int) (a b : Nat) (s t : Int) (c : Nat) :
    run O vl hOK hLaw (stA n a b s t c) [(1, ⟨false, false, .rows 18 n (Row F G)⟩)] = some (.c (.bool .t), obG O F G n (sOK O vl (R1 F G n) n a b s t c) (sOK O vl (R1 F G n) n a b s t c) n (R1 F G n) (R1 F G n) (tOK (eqT O (eqR O n n (R1 F G n) (R1 F G n)) a b s 0 c) t) (eqT O (eqR O n n (R1 F G n) (R1 F G n)) a b s t c)) := by kernel_rfl
def cde (V : Bool) : Int := bif !V then 1 else 4
def zf (V : Bool) : Nat := bif !V then 0 else 0
def tz (O : FOps) (V W : Bool) : Bool := bif !eqT0 O (zf V) (zf W) then true else !decide (cde V = cde W)
def sErr (O : FOps) (vl : (Nat → Nat) → Bool) (R : Int → List SC) (n : Int) (a b : Nat) (s t : Int) (c : Nat) : List Bool := oV n s R ++ gdB (!vR O vl n R a b s t c) [!cold s]
set_option maxRecDepth 100000 in
theorem run_err (O : FOps) (vl : (Nat → Nat) → Bool) (F : Nat → Int → Nat) (G : Nat → Int → Int) (n : Int) (a b : Nat) (s t : Int) (c : Nat) :
    run O vl hErr hLaw (stA n a b s t c) [(1, ⟨false, false, .rows 18 n (Row F G)⟩)] = some (.c (.bool .t), obGe O F G n (sErr O vl (R1 F G n) n a b s t c) (sErr O vl (R1 F G n) n a b s t c) (tz O (vR O vl n (R1 F G n) a b s t c) (vR O vl n (R1 F G n) a b s t c)) (eqT O (eqR O n n (R1 F G n) (R1 F G n)) a b s t c)) := by kernel_rfl
set_option maxRecDepth 100000 in
theorem run_big (O : FOps) (vl : (Nat → Nat) → Bool) (F : Nat → Int → Nat) (G : Nat → Int → Int) (n : Int) (a b : Nat) (s t : Int) (c : Nat) :
    run O vl hOK [(21, true)] (stA n a b s t c) [(1, ⟨false, false, .rows 18 n (Row F G)⟩)] = some (.c (.bool .t), [decide (lf n < 0)]) := by kernel_rfl
set_option maxRecDepth 100000 in
theorem run0_ok (O : FOps) (vl : (Nat → Nat) → Bool) (a b : Nat) (s t : Int) (c : Nat) :
    run O vl hOK hLaw (st0 a b s t c) [] = some (.c (.bool .t), ob0 [!!vS O true 0 a b s t c, !!cold s] [!!vI O true 0 a b s t c, !!cold s] (tOK (eqT O true a b s 0 c) t) (eqT O true a b s t c)) := by kernel_rfl
set_option maxRecDepth 100000 in
theorem run0_err (O : FOps) (vl : (Nat → Nat) → Bool) (a b : Nat) (s t : Int) (c : Nat) :
    run O vl hErr hLaw (st0 a b s t c) [] = some (.c (.bool .t), ob0 (gdB (!vS O true 0 a b s t c) [!cold s]) (gdB (!vI O true 0 a b s t c) [!cold s]) (tz O (vI O true 0 a b s t c) (vS O true 0 a b s t c)) (eqT O true a b s t c)) := by kernel_rfl
theorem tz_false (V : Bool) : tz fops V V = false := by
  unfold tz
  rw [eqT0_true]
  simp
theorem law_all (F : Nat → Int → Nat) (G : Nat → Int → Int) {n : Int} (h0 : 0 ≤ n) (hmax : n ≤ 9223372036854775807) (a b : Nat) {s : Int} (hs : -128 ≤ s ∧ s ≤ 127) (t : Int) (c : Nat) :
    ∃ h hl ob, run fops valid h hl (stA n a b s t c) [(1, ⟨false, false, .rows 18 n (Row F G)⟩)] = some (.c (.bool .t), ob) ∧ AllT ob := by
  by_cases hbig : 1048576 < n
  · exact ⟨_, _, _, run_big fops valid F G n a b s t c, AllT.one (lf_big hbig hmax)⟩
  · have h1 : n ≤ 1048576 := by omega
    have hv := oV_ok (r1_shape F G n) h0 h1 hs
    cases hV : vR fops valid n (R1 F G n) a b s t c with
    | false =>
      have hS : AllT (sErr fops valid (R1 F G n) n a b s t c) := by unfold sErr; exact AllT.app hv (gd1 fun e => by rw [hV] at e; cases e)
      exact ⟨_, _, _, run_err fops valid F G n a b s t c, obGe_ok F G h0 h1 hS hS (tz_false _) (eqT_q _ _ _ _ _ _ _)⟩
    | true =>
      cases hd : cold s with
      | false =>
        have hS : AllT (sErr fops valid (R1 F G n) n a b s t c) := by unfold sErr; exact AllT.app hv (gd1 fun _ => by rw [hd]; rfl)
        exact ⟨_, _, _, run_err fops valid F G n a b s t c, obGe_ok F G h0 h1 hS hS (tz_false _) (eqT_q _ _ _ _ _ _ _)⟩
      | true =>
        have hS : AllT (sOK fops valid (R1 F G n) n a b s t c) := by unfold sOK; exact AllT.app (AllT.app hv (AllT.cons (nn hV) (AllT.one (nn hd)))) (oA_ok h0 (vR_six hV))
        exact ⟨_, _, _, run_ok fops valid F G n a b s t c, obG_ok F G h0 h1 hS hS h0 h1 (r1_shape F G n) (r1_shape F G n) (by unfold tOK; rw [eqT_q]; simp) (eqT_q _ _ _ _ _ _ _)⟩
theorem law_all0 (a b : Nat) {s : Int} (hs : -128 ≤ s ∧ s ≤ 127) (t : Int) (c : Nat) : ∃ h hl ob, run fops valid h hl (st0 a b s t c) [] = some (.c (.bool .t), ob) ∧ AllT ob := by
  have hv := v0_eq a b hs t c
  cases hV : vI fops true 0 a b s t c with
  | false =>
    have hW := hv.trans hV
    exact ⟨_, _, _, run0_err fops valid a b s t c, ob0_ok (gd1 fun e => by rw [hW] at e; cases e) (gd1 fun e => by rw [hV] at e; cases e) (by rw [hv]; exact tz_false _) (eqT_true rfl _ _ _ _ _)⟩
  | true =>
    have hW := hv.trans hV
    cases hd : cold s with
    | false => exact ⟨_, _, _, run0_err fops valid a b s t c, ob0_ok (gd1 fun _ => by rw [hd]; rfl) (gd1 fun _ => by rw [hd]; rfl) (by rw [hv]; exact tz_false _) (eqT_true rfl _ _ _ _ _)⟩
    | true => exact ⟨_, _, _, run0_ok fops valid a b s t c, ob0_ok (AllT.cons (nn hW) (AllT.one (nn hd))) (AllT.cons (nn hV) (AllT.one (nn hd))) (by unfold tOK; rw [eqT_true rfl]; simp) (eqT_true rfl _ _ _ _ _)⟩
end
end Go.Proofs.Ytngdmcbjponlhaa.Rko
