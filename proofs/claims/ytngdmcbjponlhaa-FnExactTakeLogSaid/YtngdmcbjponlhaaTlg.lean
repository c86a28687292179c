/- The law of TakeLog: what its text computes, with any number of logs. Nothing is assumed. -/
import Derived.Test.YtngdmcbjponlhaaPtl
namespace Go.Proofs.Ytngdmcbjponlhaa.Tlg
open Go SlWood Stv Sto
noncomputable section
abbrev HH := List (Nat × Bool) × List (Nat × Bool)
def hOK : HH := ([(10, false), (21, false)], [(10, false), (19, false)])
def hErr : HH := ([(21, true)], [(19, true)])
def hLaw : List (Nat × Bool) := [(23, false), (55, false), (60, false), (82, false), (90, false), (93, false), (116, false), (121, false), (124, false)]
def LT (O : FOps) (vl : (Nat → Nat) → Bool) : List (Nat × CS) := (34, gS (eqG O)) :: LW O vl
set_option maxRecDepth 100000 in
theorem okLT : AllOK Try.prog (LT fops valid) := ⟨cEq, okLW⟩
def cIh (O : FOps) (vl : (Nat → Nat) → Bool) (h : HH) : CS := inl ⟨Try.prog, O, orcN Try.prog O (LT O vl) 8⟩ Try.f33 ⟨hint h.1, fun _ => none⟩
def cSh (O : FOps) (vl : (Nat → Nat) → Bool) (h : HH) : CS := inl ⟨Try.prog, O, orcN Try.prog O (LT O vl) 8⟩ Try.f32 ⟨hint h.2, fun _ => none⟩
def L3 (O : FOps) (vl : (Nat → Nat) → Bool) (h : HH) : List (Nat × CS) := (33, cIh O vl h) :: (32, cSh O vl h) :: LT O vl
set_option maxRecDepth 100000 in
theorem okL3 (h : HH) : AllOK Try.prog (L3 fops valid h) :=
  ⟨inlN_of (l := LT fops valid) okLT mixed 8 Try.func33 (by kernel_rfl) _, inlN_of (l := LT fops valid) okLT mixed 8 Try.func32 (by kernel_rfl) _, okLT⟩
def run (O : FOps) (vl : (Nat → Nat) → Bool) (h : HH) (hl : List (Nat × Bool)) (v : SV) (rd : List (Nat × Seg)) (x : Int) : Option (SV × List Bool) :=
  rE 2 (inl ⟨Try.prog, O, orcN Try.prog O (L3 O vl h) 8⟩ Try.f8 ⟨hint hl, fun _ => none⟩ 2 [v, .c (.int .i64 (.s x))] rd)
def inS (lo n a : Int) : Bool := bif decide (lo ≤ a) then decide (a ≤ IntKind.i64.wrap (n - 1)) else false
def rI (n x : Int) : Bool := bif decide (x < 0) then true else decide (n ≤ x)
theorem in_eq {n x : Int} (h0 : 0 ≤ n) (h1 : n ≤ 1048576) : (!inS 0 n x) = rI n x := by
  unfold inS rI
  rw [wrap_in (by omega) (by omega)]
  by_cases hx : x < 0
  · rw [decide_eq_true hx, decide_eq_false (by omega : ¬ 0 ≤ x)]; rfl
  · rw [decide_eq_false hx, decide_eq_true (by omega : 0 ≤ x)]
    by_cases h2 : n ≤ x
    · rw [decide_eq_true h2, decide_eq_false (by omega : ¬ x ≤ n - 1)]; rfl
    · rw [decide_eq_false h2, decide_eq_true (by omega : x ≤ n - 1)]; rfl
def nx (x : Int) : Int := IntKind.i64.wrap (x + 1)
/-- How many logs are left. -/
def n2 (n x : Int) : Int := x + (n - nx x)
/-- The rows without the one at 'x'. -/
def kR (R : Int → List SC) (x : Int) (j : Int) : List SC := bif decide (j < x) then R j else R (j - x + nx x)
def bnd (n k : Int) : Bool := decide (0 ≤ k ∧ k < n)
def le2 (n k : Int) : Bool := decide (0 ≤ k ∧ k ≤ n)
def oP (N n x : Int) : List Bool := [le2 n (nx x), decide (0 ≤ x ∧ x ≤ N ∧ 0 ≤ n - nx x ∧ 0 ≤ nx x ∧ nx x + (n - nx x) ≤ n ∧ x + (n - nx x) ≤ 1000000)]
def V (O : FOps) (vl : (Nat → Nat) → Bool) (R : Int → List SC) (n : Int) (a b : Nat) (s t : Int) (c : Nat) : Bool := vR O vl n R a b s t c
def sS (O : FOps) (vl : (Nat → Nat) → Bool) (R : Int → List SC) (n : Int) (a b : Nat) (s t : Int) (c : Nat) (x : Int) : List Bool := oV n s R ++ [!!V O vl R n a b s t c, !!inS 0 n x] ++ oA n ++ [bnd n x, bnd n x, le2 n x] ++ oP n n x
def sI (O : FOps) (vl : (Nat → Nat) → Bool) (R : Int → List SC) (n : Int) (a b : Nat) (s t : Int) (c : Nat) (x : Int) : List Bool := oV n s R ++ [!!V O vl R n a b s t c, !rI n x] ++ [bnd n x, bnd n x, le2 n x, decide (0 ≤ x ∧ x ≤ n ∧ x ≤ 1000000)] ++ oP x n x
/-- The log that is taken. -/
def W1 (F : Nat → Int → Nat) (G : Nat → Int → Int) (n x : Int) (i : Nat) : Nat := at18 (clF n (datF (Row F G))) x i
def tOK (E W : Bool) : Bool := bif !E then true else bif !W then true else false
set_option maxRecDepth 100000 in
theorem run_ok (O : FOps) (vl : (Nat → Nat) → Bool) (F : Nat → Int → Nat) (G : Nat → Int → Int) (n : Int) (a b : Nat) (s t : Int) (c : Nat) (x : Int) :
    run O vl hOK hLaw (stA n a b s t c) [(1, ⟨false, false, .rows 18 n (Row F G)⟩)] x = some (.c (.bool .t), obH O F G n (sS O vl (R1 F G n) n a b s t c x) (sI O vl (R1 F G n) n a b s t c x) (n2 n x) (n2 n x) (n2 n x) (kR (R1 F G n) x) (kR (R1 F G n) x) (tOK (eqT O (eqR O (n2 n x) (n2 n x) (kR (R1 F G n) x) (kR (R1 F G n) x)) a b s t c) (eqW O (W1 F G n x) (W1 F G n x))) (eqT O (eqR O n n (R1 F G n) (R1 F G n)) a b s t c)) := by kernel_rfl
def cde (P : Bool) : Int := bif P then 1 else 2
def zf (P : Bool) : Nat := bif P then 0 else 0
def zw (P : Bool) (i : Nat) : Nat := [zf P, zf P, zf P, zf P, zf P, zf P, zf P, zf P, zf P, zf P, zf P, zf P, zf P, zf P, zf P, zf P, zf P, zf P].getD i 0
def tz (O : FOps) (P Q : Bool) : Bool := bif !eqT0 O (zf P) (zf Q) then true else bif !eqW O (zw P) (zw Q) then true else !decide (cde P = cde Q)
def sErr (vi : Bool) (R : Int → List SC) (n s : Int) (r : Bool) : List Bool := oV n s R ++ gdB (!vi) [r]
set_option maxRecDepth 100000 in
theorem run_err (O : FOps) (vl : (Nat → Nat) → Bool) (F : Nat → Int → Nat) (G : Nat → Int → Int) (n : Int) (a b : Nat) (s t : Int) (c : Nat) (x : Int) :
    run O vl hErr hLaw (stA n a b s t c) [(1, ⟨false, false, .rows 18 n (Row F G)⟩)] x = some (.c (.bool .t), obGe O F G n (sErr (V O vl (R1 F G n) n a b s t c) (R1 F G n) n s (!inS 0 n x)) (sErr (V O vl (R1 F G n) n a b s t c) (R1 F G n) n s (rI n x)) (tz O (!V O vl (R1 F G n) n a b s t c) (!V O vl (R1 F G n) n a b s t c)) (eqT O (eqR O n n (R1 F G n) (R1 F G n)) a b s t c)) := by kernel_rfl
set_option maxRecDepth 100000 in
theorem run_big (O : FOps) (vl : (Nat → Nat) → Bool) (F : Nat → Int → Nat) (G : Nat → Int → Int) (n : Int) (a b : Nat) (s t : Int) (c : Nat) (x : Int) :
    run O vl hOK [(23, true)] (stA n a b s t c) [(1, ⟨false, false, .rows 18 n (Row F G)⟩)] x = some (.c (.bool .t), [decide (lf n < 0)]) := by kernel_rfl
def in0 (x : Int) : Bool := bif decide (0 ≤ x) then decide (x ≤ -1) else false
set_option maxRecDepth 100000 in
theorem run0_err (O : FOps) (vl : (Nat → Nat) → Bool) (a b : Nat) (s t : Int) (c : Nat) (x : Int) :
    run O vl hErr hLaw (st0 a b s t c) [] x = some (.c (.bool .t), ob0 (gdB (!vS O true 0 a b s t c) [!in0 x]) (gdB (!vI O true 0 a b s t c) [rI 0 x]) (tz O (!vI O true 0 a b s t c) (!vS O true 0 a b s t c)) (eqT O true a b s t c)) := by kernel_rfl
theorem eqW_zw (P : Bool) : eqW fops (zw P) (zw P) = true := eqW_self _
theorem tz_false (P : Bool) : tz fops P P = false := by
  unfold tz
  rw [eqT0_true, eqW_zw]
  simp
theorem kR_shape {R : Int → List SC} (h : Shape ts R) (x : Int) : Shape ts (kR R x) := Ptl.shape_of fun j => by
  unfold kR
  cases decide (j < x) with
  | true => exact ⟨datF R, datG R, by rw [cond_true]; exact congrFun h j⟩
  | false => exact ⟨fun c _ => datF R c (j - x + nx x), fun c _ => datG R c (j - x + nx x), by rw [cond_false]; exact congrFun h _⟩
theorem law_all (F : Nat → Int → Nat) (G : Nat → Int → Int) {n : Int} (h0 : 0 ≤ n) (hmax : n ≤ 9223372036854775807) (a b : Nat) {s : Int} (hs : -128 ≤ s ∧ s ≤ 127) (t : Int) (c : Nat) (x : Int) :
    ∃ h hl ob, run fops valid h hl (stA n a b s t c) [(1, ⟨false, false, .rows 18 n (Row F G)⟩)] x = some (.c (.bool .t), ob) ∧ AllT ob := by
  by_cases hbig : 1048576 < n
  · exact ⟨_, _, _, run_big fops valid F G n a b s t c x, AllT.one (lf_big hbig hmax)⟩
  · have h1 : n ≤ 1048576 := by omega
    have hv := oV_ok (r1_shape F G n) h0 h1 hs
    have hin := in_eq (x := x) h0 h1
    by_cases hOK : V fops valid (R1 F G n) n a b s t c = true ∧ rI n x = false
    · obtain ⟨hV, hr⟩ := hOK
      have h6 := vR_six hV
      have hx : 0 ≤ x ∧ x < n := by
        unfold rI at hr
        by_cases g : x < 0
        · rw [decide_eq_true g] at hr; cases hr
        · rw [decide_eq_false g] at hr
          have : ¬ n ≤ x := of_decide_eq_false hr
          omega
      have hn : nx x = x + 1 := by unfold nx; exact wrap_in (by omega) (by omega)
      have hn2 : n2 n x = n - 1 := by unfold n2; omega
      have b1 : bnd n x = true := decide_eq_true ⟨hx.1, hx.2⟩
      have b2 : le2 n x = true := decide_eq_true ⟨hx.1, by omega⟩
      have hP : ∀ N, x ≤ N → AllT (oP N n x) := fun N hN => by
        unfold oP le2
        rw [hn]
        exact AllT.cons (decide_eq_true ⟨by omega, by omega⟩) (AllT.one (decide_eq_true ⟨hx.1, hN, by omega, by omega, by omega, by omega⟩))
      have hS : AllT (sS fops valid (R1 F G n) n a b s t c x) := by
        unfold sS
        exact AllT.app (AllT.app (AllT.app (AllT.app hv (AllT.cons (by rw [hV]; rfl) (AllT.one (by rw [hin, hr]; rfl)))) (oA_ok h0 h6)) (AllT.cons b1 (AllT.cons b1 (AllT.one b2)))) (hP n (by omega))
      have hI : AllT (sI fops valid (R1 F G n) n a b s t c x) := by
        unfold sI
        exact AllT.app (AllT.app (AllT.app hv (AllT.cons (by rw [hV]; rfl) (AllT.one (by rw [hr]; rfl)))) (AllT.cons b1 (AllT.cons b1 (AllT.cons b2 (AllT.one (decide_eq_true ⟨hx.1, by omega, by omega⟩)))))) (hP x (Int.le_refl _))
      have hk := kR_shape (r1_shape F G n) x
      refine ⟨_, _, _, run_ok fops valid F G n a b s t c x, ?_⟩
      rw [hn2]
      exact obH_ok F G h0 h1 hS hI (by omega) (by omega) rfl rfl hk hk (by unfold tOK; rw [eqT_q, eqW_self]; rfl) (eqT_q _ _ _ _ _ _ _)
    · have hS : ∀ r, r = rI n x → AllT (sErr (V fops valid (R1 F G n) n a b s t c) (R1 F G n) n s r) := fun r e => by
        unfold sErr
        refine AllT.app hv (gd1 fun e1 => ?_)
        rw [e]
        cases hr : rI n x with
        | true => rfl
        | false =>
          refine absurd ⟨?_, hr⟩ hOK
          cases hV : V fops valid (R1 F G n) n a b s t c with
          | true => rfl
          | false => rw [hV] at e1; cases e1
      exact ⟨_, _, _, run_err fops valid F G n a b s t c x, obGe_ok F G h0 h1 (hS _ hin) (hS _ rfl) (tz_false _) (eqT_q _ _ _ _ _ _ _)⟩
theorem law_all0 (a b : Nat) {s : Int} (hs : -128 ≤ s ∧ s ≤ 127) (t : Int) (c : Nat) (x : Int) : ∃ h hl ob, run fops valid h hl (st0 a b s t c) [] x = some (.c (.bool .t), ob) ∧ AllT ob := by
  have hv := v0_eq a b hs t c
  refine ⟨_, _, _, run0_err fops valid a b s t c x, ob0_ok (gd1 fun _ => ?_) (gd1 fun _ => ?_) (by rw [hv]; exact tz_false _) (eqT_true rfl _ _ _ _ _)⟩
  · unfold in0
    by_cases h : 0 ≤ x
    · rw [decide_eq_true h, decide_eq_false (by omega : ¬ x ≤ -1)]; rfl
    · rw [decide_eq_false h]; rfl
  · unfold rI
    by_cases h : x < 0
    · rw [decide_eq_true h]; rfl
    · rw [decide_eq_false h, decide_eq_true (by omega : 0 ≤ x)]; rfl
end
end Go.Proofs.Ytngdmcbjponlhaa.Tlg
