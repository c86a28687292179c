/- The laws ValidChimney, SameChimney, SetFlue: what their texts compute, with any number of flues. Nothing is assumed. -/
import Derived.Test.YtaodbpejeglmlaaDoorChs
namespace Go.Proofs.YtaodbpejeglmlaaDoor.Chl
open Go SlFlue Chy Chs
noncomputable section
noncomputable def chA (i : Nat) (n : Int) : SV := .c (.sl i 0 5 (.s n) false)
noncomputable def ch0 (i : Nat) : SV := .c (.sl i 0 5 (.c 0) false)
noncomputable def szf (l n : Int) : Int := bif decide (IntKind.i64.wrap (l - n) < 0) then -1 else IntKind.i64.wrap (l - n)
noncomputable def lf (n : Int) : Int := szf 1048576 n
theorem szf_small {l n : Int} (h0 : 0 ≤ n) (h1 : n ≤ l) (h2 : l ≤ 1048576) : decide (szf l n < 0) = false := by
  unfold szf
  rw [wrap_in (by omega) (by omega)]
  have e : decide (l - n < 0) = false := by simp; omega
  rw [e]
  simp [e]
theorem szf_big {l n : Int} (h : 0 ≤ l) (h0 : l < n) (h1 : n ≤ 9223372036854775807) : decide (szf l n < 0) = true := by
  unfold szf
  rw [wrap_in (by omega) (by omega)]
  have e : decide (l - n < 0) = true := by simp; omega
  rw [e]
  simp
theorem lf_val {n : Int} (h0 : 0 ≤ n) (h1 : n ≤ 1048576) : lf n = 1048576 - n := by
  unfold lf szf
  rw [wrap_in (by omega) (by omega)]
  have e : decide (1048576 - n < 0) = false := by simp; omega
  rw [e]
  simp
theorem lf_small {n : Int} (h0 : 0 ≤ n) (h1 : n ≤ 1048576) : decide (lf n < 0) = false := szf_small h0 h1 (Int.le_refl _)
theorem lf_big {n : Int} (h0 : 1048576 < n) (h1 : n ≤ 9223372036854775807) : decide (lf n < 0) = true := szf_big (by decide) h0 h1
noncomputable def R1 (F : Nat → Int → Nat) (G : Nat → Int → Int) (n : Int) : Int → List SC := cpR n (Row F G)
noncomputable def oC (F : Nat → Int → Nat) (G : Nat → Int → Int) (n : Int) : List Bool := [flatR (Row F G), flatR (R1 F G n), okN n n (Row F G)]
noncomputable def oA (n : Int) : List Bool := [decide (0 ≤ n ∧ n ≤ n ∧ n ≤ 1000000)]
noncomputable def oE (n : Int) (row row' : Int → List SC) : List Bool := [flatR row', flatR row, okE' n n row n n row']
noncomputable def oM (O : FOps) (n : Int) (row : Int → List SC) : List Bool := [flatR row, flatR (mkR O 1 n row), okM' n 1 n row]
noncomputable def oH (O : FOps) (n : Int) (row : Int → List SC) : List Bool := [flatR (mkR O 1 n row), okH' n 1 n (mkR O 1 n row)]
noncomputable def ng (n : Int) : Bool := decide ((1 : Int) + 5 * n < 0)
noncomputable def qv (n : Int) : Int := 1 + 5 * n
/-- What is asked when it is held as it was marked. -/
noncomputable def oQ (n : Int) : List Bool := [!decide (qv n < 0), !!decide (qv n = 1 + 5 * n)]
theorem ng_false {n : Int} (h : 0 ≤ n) : ng n = false := by unfold ng; simp; omega
theorem oQ_ok {n : Int} (h : 0 ≤ n) : AllT (oQ n) := by
  unfold oQ qv
  exact AllT.cons (by simp; omega) (AllT.cons (by simp) AllT.nil)
theorem r1_shape (F : Nat → Int → Nat) (G : Nat → Int → Int) (n : Int) : Shape ts (R1 F G n) := shape_row _ _
theorem oC_ok (F : Nat → Int → Nat) (G : Nat → Int → Int) {n : Int} (h0 : 0 ≤ n) (h1 : n ≤ 1048576) : AllT (oC F G n) :=
  AllT.cons (rowK_flat _ _ _) (AllT.cons (rowK_flat _ _ _) (AllT.cons (pB_iff.2 ⟨rfl, h0, h1, shape_row F G⟩) AllT.nil))
theorem oA_ok {n : Int} (h0 : 0 ≤ n) (h1 : n ≤ 6) : AllT (oA n) := AllT.cons (by simp; omega) AllT.nil
theorem oE_ok {row row' : Int → List SC} (hs : Shape ts row) (hs' : Shape ts row') {n : Int} (h0 : 0 ≤ n) (h1 : n ≤ 1048576) : AllT (oE n row row') :=
  AllT.cons (shape_flat hs') (AllT.cons (shape_flat hs) (AllT.cons (by
    unfold okE'
    have : pB (n = n ∧ n = n ∧ 0 ≤ n ∧ n ≤ 1048576 ∧ Shape ts row ∧ Shape ts row') = true := pB_iff.2 ⟨rfl, rfl, h0, h1, hs, hs'⟩
    rw [this, Bool.or_true]) AllT.nil))
theorem mk_shape (u n : Int) (row : Int → List SC) : Shape ts (mkR fops u n row) := shape_row _ _
theorem oM_ok {row : Int → List SC} (hs : Shape ts row) {n : Int} (h0 : 0 ≤ n) (h1 : n ≤ 1048576) : AllT (oM fops n row) :=
  AllT.cons (shape_flat hs) (AllT.cons (shape_flat (mk_shape _ _ _)) (AllT.cons (pB_iff.2 ⟨rfl, h0, h1, by decide, by decide, hs⟩) AllT.nil))
theorem oH_ok (row : Int → List SC) {n : Int} (h0 : 0 ≤ n) (h1 : n ≤ 1048576) : AllT (oH fops n row) :=
  AllT.cons (shape_flat (mk_shape _ _ _)) (AllT.cons (pB_iff.2 ⟨rfl, h0, h1, by decide, by decide, mkR_marked _ _ _⟩) AllT.nil)
theorem gdB_ok' {g : Bool} {l : List Bool} (h : AllT l) : AllT (gdB g l) := gdB_ok fun _ => h
/-! ### a law whose answer is a stove -/
theorem AllT.iff_app {l m : List Bool} : AllT (l ++ m) ↔ AllT l ∧ AllT m := ⟨fun h => h.append, fun h => AllT.app h.1 h.2⟩
noncomputable def obG (O : FOps) (F : Nat → Int → Nat) (G : Nat → Int → Int) (n : Int) (Ss Si : List Bool) (n2 : Int) (Ri Rs : Int → List SC) (T E : Bool) : List Bool :=
  [!decide (lf n < 0)] ++ (oC F G n ++ Ss) ++ (oC F G n ++ Si) ++ oE n2 Ri Rs ++ [!T] ++ oC F G n ++ oE n (R1 F G n) (R1 F G n) ++ [!!E] ++ oM O n (R1 F G n) ++ gdB (ng n) (oE n2 Ri Rs) ++ [!(bif ng n then true else T)] ++
  oM O n2 Ri ++ oH O n2 Ri ++ oQ n2 ++ (oC F G n ++ Si) ++ oE n2 Ri Rs ++ [!T] ++ oH O n2 Ri ++ oQ n2
noncomputable def obGe (O : FOps) (F : Nat → Int → Nat) (G : Nat → Int → Int) (n : Int) (Ss Si : List Bool) (T E : Bool) : List Bool :=
  [!decide (lf n < 0)] ++ (oC F G n ++ Ss) ++ (oC F G n ++ Si) ++ [!T] ++ oC F G n ++ oE n (R1 F G n) (R1 F G n) ++ [!!E] ++ oM O n (R1 F G n) ++ [!(bif ng n then true else T)] ++ (oC F G n ++ Si) ++ [!T]
noncomputable def ob0 (Ss Si : List Bool) (T E : Bool) : List Bool := Ss ++ Si ++ [!T, !!E, !T] ++ Si ++ [!T]
theorem obG_ok (F : Nat → Int → Nat) (G : Nat → Int → Int) {n : Int} (h0 : 0 ≤ n) (h1 : n ≤ 1048576) {Ss Si : List Bool} (hs : AllT Ss) (hi : AllT Si) {n2 : Int} (k0 : 0 ≤ n2) (k1 : n2 ≤ 1048576) {Ri Rs : Int → List SC} (hri : Shape ts Ri) (hrs : Shape ts Rs) {T E : Bool} (hT : T = false) (hE : E = true) :
    AllT (obG fops F G n Ss Si n2 Ri Rs T E) := by
  have c := oC_ok F G h0 h1
  have e := oE_ok hri hrs k0 k1
  have x := oE_ok (r1_shape F G n) (r1_shape F G n) h0 h1
  have m := oM_ok (r1_shape F G n) h0 h1
  have m2 := oM_ok hri k0 k1
  have y := oH_ok Ri k0 k1
  have z := oQ_ok k0
  unfold obG
  rw [hT, hE, lf_small h0 h1, ng_false h0]
  simp only [AllT.iff_app]
  exact ⟨⟨⟨⟨⟨⟨⟨⟨⟨⟨⟨⟨⟨⟨⟨⟨⟨⟨AllT.one rfl, c, hs⟩, c, hi⟩, e⟩, AllT.one rfl⟩, c⟩, x⟩, AllT.one rfl⟩, m⟩, gdB_ok' e⟩, AllT.one rfl⟩, m2⟩, y⟩, z⟩, c, hi⟩, e⟩, AllT.one rfl⟩, y⟩, z⟩
theorem obGe_ok (F : Nat → Int → Nat) (G : Nat → Int → Int) {n : Int} (h0 : 0 ≤ n) (h1 : n ≤ 1048576) {Ss Si : List Bool} (hs : AllT Ss) (hi : AllT Si) {T E : Bool} (hT : T = false) (hE : E = true) : AllT (obGe fops F G n Ss Si T E) := by
  have c := oC_ok F G h0 h1
  have x := oE_ok (r1_shape F G n) (r1_shape F G n) h0 h1
  have m := oM_ok (r1_shape F G n) h0 h1
  unfold obGe
  rw [hT, hE, lf_small h0 h1, ng_false h0]
  simp only [AllT.iff_app]
  exact ⟨⟨⟨⟨⟨⟨⟨⟨⟨⟨AllT.one rfl, c, hs⟩, c, hi⟩, AllT.one rfl⟩, c⟩, x⟩, AllT.one rfl⟩, m⟩, AllT.one rfl⟩, c, hi⟩, AllT.one rfl⟩
theorem ob0_ok {Ss Si : List Bool} (hs : AllT Ss) (hi : AllT Si) {T E : Bool} (hT : T = false) (hE : E = true) : AllT (ob0 Ss Si T E) := by
  unfold ob0
  rw [hT, hE]
  simp only [AllT.iff_app]
  exact ⟨⟨⟨⟨hs, hi⟩, AllT.cons rfl (AllT.cons rfl (AllT.cons rfl AllT.nil))⟩, hi⟩, AllT.one rfl⟩
theorem gd1 {g b : Bool} (h : g = false → b = true) : AllT (gdB g [b]) := gdB_ok fun e => AllT.one (h e)
theorem nn {b : Bool} (h : b = true) : (!!b) = true := by rw [h]; rfl
/-! ### the same, where the rows of the answer are told of more generally -/
noncomputable def oE2 (n N M : Int) (row row' : Int → List SC) : List Bool := [flatR row', flatR row, okE' n N row n M row']
noncomputable def oM2 (O : FOps) (n N : Int) (row : Int → List SC) : List Bool := [flatR row, flatR (mkR O 1 n row), okM' n 1 N row]
noncomputable def obH (O : FOps) (F : Nat → Int → Nat) (G : Nat → Int → Int) (n : Int) (Ss Si : List Bool) (n2 Ni Ns : Int) (Ri Rs : Int → List SC) (T E : Bool) : List Bool :=
  [!decide (lf n < 0)] ++ (oC F G n ++ Ss) ++ (oC F G n ++ Si) ++ oE2 n2 Ni Ns Ri Rs ++ [!T] ++ oC F G n ++ oE n (R1 F G n) (R1 F G n) ++ [!!E] ++ oM O n (R1 F G n) ++ gdB (ng n) (oE2 n2 Ni Ns Ri Rs) ++ [!(bif ng n then true else T)] ++
  oM2 O n2 Ni Ri ++ oH O n2 Ri ++ oQ n2 ++ (oC F G n ++ Si) ++ oE2 n2 Ni Ns Ri Rs ++ [!T] ++ oH O n2 Ri ++ oQ n2
theorem oE2_ok {row row' : Int → List SC} (hs : Shape ts row) (hs' : Shape ts row') {n N M : Int} (h0 : 0 ≤ n) (h1 : n ≤ 1048576) (hN : N = n) (hM : M = n) : AllT (oE2 n N M row row') := by
  subst hN
  subst hM
  exact oE_ok hs hs' h0 h1
theorem obH_ok (F : Nat → Int → Nat) (G : Nat → Int → Int) {n : Int} (h0 : 0 ≤ n) (h1 : n ≤ 1048576) {Ss Si : List Bool} (hs : AllT Ss) (hi : AllT Si) {n2 Ni Ns : Int} (k0 : 0 ≤ n2) (k1 : n2 ≤ 1048576) (hNi : Ni = n2) (hNs : Ns = n2) {Ri Rs : Int → List SC} (hri : Shape ts Ri) (hrs : Shape ts Rs) {T E : Bool} (hT : T = false) (hE : E = true) :
    AllT (obH fops F G n Ss Si n2 Ni Ns Ri Rs T E) := by
  subst hNi
  subst hNs
  exact obG_ok F G h0 h1 hs hi k0 k1 hri hrs hT hE
noncomputable def oVc (n : Int) (row : Int → List SC) : List Bool := [flatR row, okN n n row]
theorem oVc_ok {row : Int → List SC} (hs : Shape ts row) {n : Int} (h0 : 0 ≤ n) (h1 : n ≤ 1048576) : AllT (oVc n row) :=
  AllT.cons (shape_flat hs) (AllT.one (pB_iff.2 ⟨rfl, h0, h1, hs⟩))
theorem vC_six {O : FOps} {n : Int} {row : Int → List SC} (h : vC O n row = true) : 1 ≤ n ∧ n ≤ 6 := by
  unfold vC vC' rgI at h
  cases h1 : decide (n < 1) with
  | true => rw [h1] at h; cases h
  | false =>
    cases h6 : decide (6 < n) with
    | true => rw [h1, h6] at h; cases h
    | false =>
      have := of_decide_eq_false h6
      have := of_decide_eq_false h1
      omega
/-! ### ValidChimney -/
noncomputable def hV : List (Nat × Bool) := [(11, false), (21, false), (26, false)]
noncomputable def obV (O : FOps) (F : Nat → Int → Nat) (G : Nat → Int → Int) (n : Int) : List Bool := [!decide (lf n < 0)] ++ (oC F G n ++ oVc n (R1 F G n)) ++ (oC F G n ++ oVc n (R1 F G n)) ++ [!!(vC O n (R1 F G n) == vC O n (R1 F G n))] ++ oC F G n ++ oE n (R1 F G n) (R1 F G n) ++ [!!eqR O n n (R1 F G n) (R1 F G n)]
noncomputable def hS : List (Nat × Bool) := [(14, false), (19, false), (34, false), (39, false), (44, false)]
noncomputable def rd2 (F : Nat → Int → Nat) (G : Nat → Int → Int) (n : Int) (H : Nat → Int → Nat) (I : Nat → Int → Int) (m : Int) : List (Nat × Seg) := [(1, ⟨false, false, .rows 5 n (Row F G)⟩), (2, ⟨false, false, .rows 5 m (Row H I)⟩)]
noncomputable def lf2 (n m : Int) : Int := szf (lf n) m
noncomputable def oS (n m : Int) (row row' : Int → List SC) : List Bool := [flatR row', flatR row, okE' n n row m m row']
noncomputable def obS (O : FOps) (F : Nat → Int → Nat) (G : Nat → Int → Int) (n : Int) (H : Nat → Int → Nat) (I : Nat → Int → Int) (m : Int) : List Bool :=
  [!decide (lf n < 0), !decide (lf2 n m < 0)] ++ oC F G n ++ oC H I m ++ oS n m (R1 F G n) (R1 H I m) ++ oC F G n ++ oC H I m ++ oS n m (R1 F G n) (R1 H I m) ++ [!!(sR n m (R1 F G n) (R1 H I m) == sR n m (R1 F G n) (R1 H I m))] ++
  oC F G n ++ oE n (R1 F G n) (R1 F G n) ++ [!!eqR O n n (R1 F G n) (R1 F G n)] ++ oC H I m ++ oE m (R1 H I m) (R1 H I m) ++ [!!eqR O m m (R1 H I m) (R1 H I m)]
end
end Go.Proofs.YtaodbpejeglmlaaDoor.Chl
