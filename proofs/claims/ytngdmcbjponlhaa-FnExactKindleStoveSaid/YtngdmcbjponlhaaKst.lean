/- The law of KindleStove: what its text computes, with any number of logs. Nothing is assumed. -/
import Derived.Test.YtngdmcbjponlhaaSto
namespace Go.Proofs.Ytngdmcbjponlhaa.Kst
open Go SlWood Stv Sto
noncomputable section
abbrev HH := List (Nat × Bool) × List (Nat × Bool)
def hOK : HH := ([(5, false), (10, false), (15, false)], [(7, false), (11, false), (16, false)])
def hErr : HH := ([(15, true)], [(16, true)])
def hLaw : List (Nat × Bool) := [(18, false), (40, false), (45, false), (61, false), (69, false), (72, false), (87, false), (92, false), (95, false)]
def cIh (O : FOps) (vl : (Nat → Nat) → Bool) (h : HH) : CS := inl (cxW O vl) Try.f43 ⟨hint h.1, fun _ => none⟩
def cSh (O : FOps) (vl : (Nat → Nat) → Bool) (h : HH) : CS := inl (cxW O vl) Try.f42 ⟨hint h.2, fun _ => none⟩
def L3 (O : FOps) (vl : (Nat → Nat) → Bool) (h : HH) : List (Nat × CS) := (43, cIh O vl h) :: (42, cSh O vl h) :: LW O vl
set_option maxRecDepth 100000 in
theorem okL3 (h : HH) : AllOK Try.prog (L3 fops valid h) :=
  ⟨inlN_of (l := LW fops valid) okLW mixed 8 Try.func43 (by kernel_rfl) _, inlN_of (l := LW fops valid) okLW mixed 8 Try.func42 (by kernel_rfl) _, okLW⟩
def run (O : FOps) (vl : (Nat → Nat) → Bool) (h : HH) (hl : List (Nat × Bool)) (v : SV) (rd : List (Nat × Seg)) : Option (SV × List Bool) :=
  rE 2 (inl ⟨Try.prog, O, orcN Try.prog O (L3 O vl h) 8⟩ Try.f12 ⟨hint hl, fun _ => none⟩ 2 [v] rd)
def cold (s : Int) : Bool := decide (s = 0)
/-- A layer is warmed. -/
def cc (O : FOps) (R : Int → List SC) (c : Nat) : Bool := O.cmp .lss .f32 (datF R c 0) 1143930880
def stepR (O : FOps) (R : Int → List SC) (c : Nat) (j : Int) : List SC := mergeR (cc O R c) (putR R 0 c [.flt .f32 1143930880] j) (R j)
def stepN (O : FOps) (R : Int → List SC) (c : Nat) (N : Int) : Int := bif cc O R c then N else N
def ra (O : FOps) (R : Int → List SC) : Int → List SC := stepR O R 6
def rb (O : FOps) (R : Int → List SC) : Int → List SC := stepR O (ra O R) 7
def kR (O : FOps) (R : Int → List SC) : Int → List SC := stepR O (rb O R) 8
def na (O : FOps) (R : Int → List SC) (n : Int) : Int := stepN O R 6 n
def nb (O : FOps) (R : Int → List SC) (n : Int) : Int := stepN O (ra O R) 7 (na O R n)
def kN (O : FOps) (R : Int → List SC) (n : Int) : Int := stepN O (rb O R) 8 (nb O R n)
def zn (m : Int) : Bool := decide ((0 : Int) ≤ 0 ∧ 0 < m)
def oW (O : FOps) (R : Int → List SC) (c : Nat) (n N : Int) : List Bool := [zn n, zn N] ++ gdB (!cc O R c) [zn n, zn N]
def sOK (O : FOps) (vl : (Nat → Nat) → Bool) (R : Int → List SC) (n : Int) (a b : Nat) (s t : Int) (c : Nat) : List Bool := oV n s R ++ [!!vR O vl n R a b s t c, !!cold s, !decide (n = 0)] ++ oA n ++ oW O R 6 n n ++ oW O (ra O R) 7 n (na O R n) ++ oW O (rb O R) 8 n (nb O R n)
def tOK (E : Bool) : Bool := bif !E then true else false
set_option maxRecDepth 100000 in
theorem run_ok (O : FOps) (vl : (Nat → Nat) → Bool) (F : Nat → Int → Nat) (G : Nat → Int → Int) (n : Int) (a b : Nat) (s t : Int) (c : Nat) :
    run O vl hOK hLaw (stA n a b s t c) [(1, ⟨false, false, .rows 18 n (Row F G)⟩)] = some (.c (.bool .t), obH O F G n (sOK O vl (R1 F G n) n a b s t c) (sOK O vl (R1 F G n) n a b s t c) n (kN O (R1 F G n) n) (kN O (R1 F G n) n) (kR O (R1 F G n)) (kR O (R1 F G n)) (tOK (eqT O (eqR O n n (kR O (R1 F G n)) (kR O (R1 F G n))) a b 1 t c)) (eqT O (eqR O n n (R1 F G n) (R1 F G n)) a b s t c)) := by kernel_rfl
def cde (V Z : Bool) : Int := bif !V then 1 else bif !Z then 4 else 6
def zf (V Z : Bool) : Nat := bif !V then 0 else bif !Z then 0 else 0
def cdI (V Z : Bool) : Int := bif !V then 1 else bif !!V && !Z then 4 else 6
def zI (V Z : Bool) : Nat := bif !V then 0 else bif !!V && !Z then 0 else 0
def tz (O : FOps) (V W Z : Bool) : Bool := bif !eqT0 O (zI V Z) (zf W Z) then true else !decide (cdI V Z = cde W Z)
def sErr (O : FOps) (vl : (Nat → Nat) → Bool) (R : Int → List SC) (n : Int) (a b : Nat) (s t : Int) (c : Nat) : List Bool := oV n s R ++ gdB (!vR O vl n R a b s t c) (gdB (!cold s) [decide (n = 0)])
set_option maxRecDepth 100000 in
theorem run_err (O : FOps) (vl : (Nat → Nat) → Bool) (F : Nat → Int → Nat) (G : Nat → Int → Int) (n : Int) (a b : Nat) (s t : Int) (c : Nat) :
    run O vl hErr hLaw (stA n a b s t c) [(1, ⟨false, false, .rows 18 n (Row F G)⟩)] = some (.c (.bool .t), obGe O F G n (sErr O vl (R1 F G n) n a b s t c) (sErr O vl (R1 F G n) n a b s t c) (tz O (vR O vl n (R1 F G n) a b s t c) (vR O vl n (R1 F G n) a b s t c) (cold s)) (eqT O (eqR O n n (R1 F G n) (R1 F G n)) a b s t c)) := by kernel_rfl
set_option maxRecDepth 100000 in
theorem run_big (O : FOps) (vl : (Nat → Nat) → Bool) (F : Nat → Int → Nat) (G : Nat → Int → Int) (n : Int) (a b : Nat) (s t : Int) (c : Nat) :
    run O vl hOK [(18, true)] (stA n a b s t c) [(1, ⟨false, false, .rows 18 n (Row F G)⟩)] = some (.c (.bool .t), [decide (lf n < 0)]) := by kernel_rfl
set_option maxRecDepth 100000 in
theorem run0_err (O : FOps) (vl : (Nat → Nat) → Bool) (a b : Nat) (s t : Int) (c : Nat) :
    run O vl hErr hLaw (st0 a b s t c) [] = some (.c (.bool .t), ob0 [] [] (tz O (vI O true 0 a b s t c) (vS O true 0 a b s t c) (cold s)) (eqT O true a b s t c)) := by kernel_rfl
theorem tz_false (V Z : Bool) : tz fops V V Z = false := by
  have h1 : zI V Z = zf V Z := by cases V <;> cases Z <;> rfl
  have h2 : cdI V Z = cde V Z := by cases V <;> cases Z <;> rfl
  unfold tz
  rw [h1, h2, eqT0_true]
  simp
set_option maxRecDepth 100000 in
theorem sh6 (O : FOps) (F : Nat → Int → Nat) (G : Nat → Int → Int) : Shape ts (stepR O (Row F G) 6) := funext fun j => by kernel_rfl
set_option maxRecDepth 100000 in
theorem sh7 (O : FOps) (F : Nat → Int → Nat) (G : Nat → Int → Int) : Shape ts (stepR O (Row F G) 7) := funext fun j => by kernel_rfl
set_option maxRecDepth 100000 in
theorem sh8 (O : FOps) (F : Nat → Int → Nat) (G : Nat → Int → Int) : Shape ts (stepR O (Row F G) 8) := funext fun j => by kernel_rfl
theorem kR_shape (O : FOps) {R : Int → List SC} (h : Shape ts R) : Shape ts (kR O R) := by
  have h1 : Shape ts (ra O R) := by unfold ra; rw [h]; exact sh6 O _ _
  have h2 : Shape ts (rb O R) := by unfold rb; rw [h1]; exact sh7 O _ _
  unfold kR; rw [h2]; exact sh8 O _ _
theorem stepN_eq (O : FOps) (R : Int → List SC) (c : Nat) (N : Int) : stepN O R c N = N := by unfold stepN; cases cc O R c <;> rfl
theorem kN_eq (O : FOps) (R : Int → List SC) (n : Int) : kN O R n = n := by unfold kN nb na; rw [stepN_eq, stepN_eq, stepN_eq]
theorem zn_ok {m : Int} (h : 0 < m) : zn m = true := by unfold zn; simp; omega
theorem oW_ok (O : FOps) (R : Int → List SC) (c : Nat) {n N : Int} (h : 0 < n) (hN : N = n) : AllT (oW O R c n N) := by
  subst hN
  unfold oW
  exact AllT.app (AllT.cons (zn_ok h) (AllT.one (zn_ok h))) (gdB_ok' (AllT.cons (zn_ok h) (AllT.one (zn_ok h))))
theorem law_all (F : Nat → Int → Nat) (G : Nat → Int → Int) {n : Int} (h0 : 0 ≤ n) (hmax : n ≤ 9223372036854775807) (a b : Nat) {s : Int} (hs : -128 ≤ s ∧ s ≤ 127) (t : Int) (c : Nat) :
    ∃ h hl ob, run fops valid h hl (stA n a b s t c) [(1, ⟨false, false, .rows 18 n (Row F G)⟩)] = some (.c (.bool .t), ob) ∧ AllT ob := by
  by_cases hbig : 1048576 < n
  · exact ⟨_, _, _, run_big fops valid F G n a b s t c, AllT.one (lf_big hbig hmax)⟩
  · have h1 : n ≤ 1048576 := by omega
    have hv := oV_ok (r1_shape F G n) h0 h1 hs
    by_cases hOK : vR fops valid n (R1 F G n) a b s t c = true ∧ cold s = true ∧ n ≠ 0
    · obtain ⟨hV, hd, hn⟩ := hOK
      have hS : AllT (sOK fops valid (R1 F G n) n a b s t c) := by
        unfold sOK
        have e1 : na fops (R1 F G n) n = n := stepN_eq _ _ _ _
        have e2 : nb fops (R1 F G n) n = n := by unfold nb; rw [stepN_eq, e1]
        exact AllT.app (AllT.app (AllT.app (AllT.app (AllT.app hv (AllT.cons (nn hV) (AllT.cons (nn hd) (AllT.one (by simpa using hn))))) (oA_ok h0 (vR_six hV))) (oW_ok _ _ _ (by omega) rfl)) (oW_ok _ _ _ (by omega) e1)) (oW_ok _ _ _ (by omega) e2)
      have hk := kR_shape fops (r1_shape F G n)
      exact ⟨_, _, _, run_ok fops valid F G n a b s t c, obH_ok F G h0 h1 hS hS h0 h1 (kN_eq _ _ _) (kN_eq _ _ _) hk hk (by unfold tOK; rw [eqT_q]; rfl) (eqT_q _ _ _ _ _ _ _)⟩
    · have hS : AllT (sErr fops valid (R1 F G n) n a b s t c) := by
        unfold sErr
        refine AllT.app hv (gdB_ok fun e1 => gd1 fun e2 => ?_)
        have k1 : vR fops valid n (R1 F G n) a b s t c = true := by simpa using e1
        have k2 : cold s = true := by simpa using e2
        by_cases hn : n = 0
        · simpa using hn
        · exact absurd ⟨k1, k2, hn⟩ hOK
      exact ⟨_, _, _, run_err fops valid F G n a b s t c, obGe_ok F G h0 h1 hS hS (tz_false _ _) (eqT_q _ _ _ _ _ _ _)⟩
theorem law_all0 (a b : Nat) {s : Int} (hs : -128 ≤ s ∧ s ≤ 127) (t : Int) (c : Nat) : ∃ h hl ob, run fops valid h hl (st0 a b s t c) [] = some (.c (.bool .t), ob) ∧ AllT ob :=
  ⟨_, _, _, run0_err fops valid a b s t c, ob0_ok AllT.nil AllT.nil (by rw [v0_eq a b hs t c]; exact tz_false _ _) (eqT_true rfl _ _ _ _ _)⟩
end
end Go.Proofs.Ytngdmcbjponlhaa.Kst
