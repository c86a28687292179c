/- What the laws of flats ask for. Nothing is assumed. -/
import Derived.Test.YtopliajfonpbcaaFlc
namespace Go.Proofs.Ytopliajfonpbcaa.Fla
open Go
noncomputable section
def LW (O : FOps) : List (Nat × CS) := [(62, amtS), (95, amtS), (99, absS), (33, gS (sfG O)), (15, SlFloat32.toC O), (52, SlWall.toC O), (53, SlPane.toC O), (17, SlFloat32.eqC O), (56, SlWall.eqC O), (57, SlPane.eqC O), (28, vIC O), (58, vSC O)]
set_option maxRecDepth 100000 in
theorem okLW : AllOK Try.prog (LW fops) := ⟨cAmtI, cAmtL, cAbs, cSf, SlFloat32.cToC, SlWall.cToC, SlPane.cToC, SlFloat32.cEqC, SlWall.cEqC, SlPane.cEqC, cVI, cVS, trivial⟩
def cxW (O : FOps) : Cx := ⟨Try.prog, O, orcN Try.prog O (LW O) 8⟩
/-- A flat as an argument of a law. -/
def flA (x : FD) : SV := .a [.sl 1 0 1 (.s x.n0) false, .sl 2 0 1 (.s x.n1) false, .sl 3 0 8 (.s x.n2) false, .sl 4 0 4 (.s x.n3) false]
def flA0 : SV := .a [.sl 1 0 1 (.c 0) false, .sl 2 0 1 (.c 0) false, .sl 3 0 8 (.c 0) false, .sl 4 0 4 (.c 0) false]
def rdA (x : FD) : List (Nat × Seg) := [(1, ⟨false, false, .rows 1 x.n0 x.R0⟩), (2, ⟨false, false, .rows 1 x.n1 x.R1⟩), (3, ⟨false, false, .rows 8 x.n2 x.R2⟩), (4, ⟨false, false, .rows 4 x.n3 x.R3⟩)]
/-! ### how large the argument is -/
def lz (n l : Int) : Int := bif decide (IntKind.i64.wrap (l - n) < 0) then (-1 : Int) else IntKind.i64.wrap (l - n)
def l0 (x : FD) : Int := lz x.n0 1048576
def l1 (x : FD) : Int := lz x.n1 (l0 x)
def l2 (x : FD) : Int := lz x.n2 (l1 x)
def l3 (x : FD) : Int := lz x.n3 (l2 x)
def sz (x : FD) : Int := bif decide (l0 x < 0) then (-1 : Int) else bif decide (l1 x < 0) then (-1 : Int) else bif decide (l2 x < 0) then (-1 : Int) else bif decide (l3 x < 0) then (-1 : Int) else l3 x
structure Nn (x : FD) : Prop where
  a : 0 ≤ x.n0 ∧ x.n0 ≤ 9223372036854775807
  b : 0 ≤ x.n1 ∧ x.n1 ≤ 9223372036854775807
  c : 0 ≤ x.n2 ∧ x.n2 ≤ 9223372036854775807
  d : 0 ≤ x.n3 ∧ x.n3 ≤ 9223372036854775807
structure Sm (x : FD) : Prop where
  a : 0 ≤ x.n0 ∧ x.n0 ≤ 1048576
  b : 0 ≤ x.n1 ∧ x.n1 ≤ 1048576
  c : 0 ≤ x.n2 ∧ x.n2 ≤ 1048576
  d : 0 ≤ x.n3 ∧ x.n3 ≤ 1048576
theorem lz_eq {n l : Int} (h0 : 0 ≤ n) (h1 : n ≤ 9223372036854775807) (h2 : 0 ≤ l) (h3 : l ≤ 1048576) (h : ¬ lz n l < 0) : n ≤ l ∧ lz n l = l - n := by
  unfold lz at h ⊢
  rw [wrap_in (by omega) (by omega)] at h ⊢
  by_cases e : l - n < 0
  · rw [decide_eq_true e] at h
    exact absurd (show (-1 : Int) < 0 by decide) h
  · rw [decide_eq_false e]
    exact ⟨by omega, rfl⟩
theorem sz_small {x : FD} (hn : Nn x) (h : decide (sz x < 0) = false) : Sm x := by
  have h' : ¬ sz x < 0 := of_decide_eq_false h
  unfold sz at h'
  by_cases e0 : l0 x < 0
  · rw [decide_eq_true e0] at h'; exact absurd (show (-1 : Int) < 0 by decide) h'
  rw [decide_eq_false e0] at h'
  by_cases e1 : l1 x < 0
  · rw [decide_eq_true e1] at h'; exact absurd (show (-1 : Int) < 0 by decide) h'
  rw [decide_eq_false e1] at h'
  by_cases e2 : l2 x < 0
  · rw [decide_eq_true e2] at h'; exact absurd (show (-1 : Int) < 0 by decide) h'
  rw [decide_eq_false e2] at h'
  by_cases e3 : l3 x < 0
  · rw [decide_eq_true e3] at h'; exact absurd (show (-1 : Int) < 0 by decide) h'
  obtain ⟨a1, a2⟩ := lz_eq hn.a.1 hn.a.2 (by decide) (Int.le_refl _) e0
  have a3 : l0 x = 1048576 - x.n0 := a2
  have := hn.a.1
  obtain ⟨b1, b2⟩ := lz_eq hn.b.1 hn.b.2 (l := l0 x) (by omega) (by omega) e1
  have b3 : l1 x = l0 x - x.n1 := b2
  have := hn.b.1
  obtain ⟨c1, c2⟩ := lz_eq hn.c.1 hn.c.2 (l := l1 x) (by omega) (by omega) e2
  have c3 : l2 x = l1 x - x.n2 := c2
  have := hn.c.1
  obtain ⟨d1, d2⟩ := lz_eq hn.d.1 hn.d.2 (l := l2 x) (by omega) (by omega) e3
  have := hn.d.1
  exact ⟨by omega, by omega, by omega, by omega⟩
/-! ### what a law of one flat asks for -/
def C0 (x : FD) : Int → List SC := SlFloat32.cpR x.n0 x.R0
def C1 (x : FD) : Int → List SC := SlFloat32.cpR x.n1 x.R1
def C2 (x : FD) : Int → List SC := SlWall.cpR x.n2 x.R2
def C3 (x : FD) : Int → List SC := SlPane.cpR x.n3 x.R3
/-- The flat that is made of it. -/
def FD.fl (x : FD) : Fl := ⟨x.n0, x.n1, x.n2, x.n3, x.n0, x.n1, x.n2, x.n3, C0 x, C1 x, C2 x, C3 x⟩
theorem C0_sh (x : FD) : Shape SlFloat32.ts (C0 x) := SlFloat32.shape_row _ _
theorem C1_sh (x : FD) : Shape SlFloat32.ts (C1 x) := SlFloat32.shape_row _ _
theorem C2_sh (x : FD) : Shape SlWall.ts (C2 x) := SlWall.shape_row _ _
theorem C3_sh (x : FD) : Shape SlPane.ts (C3 x) := SlPane.shape_row _ _
def oC (x : FD) : List Bool := [flatR x.R0, flatR (C0 x), SlFloat32.okN x.n0 x.n0 x.R0, flatR x.R1, flatR (C1 x), SlFloat32.okN x.n1 x.n1 x.R1, flatR x.R2, flatR (C2 x), SlWall.okN x.n2 x.n2 x.R2, flatR x.R3, flatR (C3 x), SlPane.okN x.n3 x.n3 x.R3]
theorem oC_ok {x : FD} (h : Sm x) : AllT (oC x) :=
  AllT.cons x.f0 (AllT.cons (shF (C0_sh x)) (AllT.cons (pB_iff.2 ⟨rfl, h.a.1, h.a.2, SlFloat32.shape_row _ _⟩) (AllT.cons x.f1 (AllT.cons (shF (C1_sh x)) (AllT.cons (pB_iff.2 ⟨rfl, h.b.1, h.b.2, SlFloat32.shape_row _ _⟩)
  (AllT.cons x.f2 (AllT.cons (shF (C2_sh x)) (AllT.cons (pB_iff.2 ⟨rfl, h.c.1, h.c.2, SlWall.shape_row _ _⟩) (AllT.cons x.f3 (AllT.cons (shF (C3_sh x)) (AllT.one' (pB_iff.2 ⟨rfl, h.d.1, h.d.2, SlPane.shape_row _ _⟩))))))))))))
/-- The flat is handed to a call. -/
def oV (x : FD) : List Bool := [flatR (C3 x), flatR (C2 x), flatR (C1 x), flatR (C0 x), x.fl.ok]
theorem fl_ok {x : FD} (h : Sm x) : x.fl.ok = true := pB_iff.2 ⟨rfl, rfl, rfl, rfl, h.a.1, h.a.2, h.c.1, h.c.2, h.d.1, h.d.2, C0_sh x, C1_sh x, C2_sh x, C3_sh x⟩
theorem oV_ok {x : FD} (h : Sm x) : AllT (oV x) := AllT.cons (shF (C3_sh x)) (AllT.cons (shF (C2_sh x)) (AllT.cons (shF (C1_sh x)) (AllT.cons (shF (C0_sh x)) (AllT.one' (fl_ok h)))))
def q0 (O : FOps) (x : FD) : Bool := SlFloat32.eqR O x.n0 x.n0 (C0 x) (C0 x)
def qq1 (O : FOps) (x : FD) : Bool := SlFloat32.eqR O x.n1 x.n1 (C1 x) (C1 x)
def qq2 (O : FOps) (x : FD) : Bool := SlWall.eqR O x.n2 x.n2 (C2 x) (C2 x)
def qq3 (O : FOps) (x : FD) : Bool := SlPane.eqR O x.n3 x.n3 (C3 x) (C3 x)
/-- The flat is as it was. -/
def eqF (O : FOps) (x : FD) : Bool := bif !q0 O x then false else bif !qq1 O x then false else bif !qq2 O x then false else bif !qq3 O x then false else true
theorem eqF_true (x : FD) : eqF fops x = true := by
  unfold eqF q0 qq1 qq2 qq3
  rw [SlFloat32.eqR_self, SlFloat32.eqR_self, SlWall.eqR_self, SlPane.eqR_self]
  rfl
def oE (O : FOps) (x : FD) : List Bool :=
  [flatR (C0 x), flatR (C0 x), SlFloat32.okE' x.n0 x.n0 (C0 x) x.n0 x.n0 (C0 x)] ++ gdB (!q0 O x) [flatR (C1 x), flatR (C1 x), SlFloat32.okE' x.n1 x.n1 (C1 x) x.n1 x.n1 (C1 x)] ++
  gdB (!q0 O x) (gdB (!qq1 O x) [flatR (C2 x), flatR (C2 x), SlWall.okE' x.n2 x.n2 (C2 x) x.n2 x.n2 (C2 x)]) ++
  gdB (!q0 O x) (gdB (!qq1 O x) (gdB (!qq2 O x) [flatR (C3 x), flatR (C3 x), SlPane.okE' x.n3 x.n3 (C3 x) x.n3 x.n3 (C3 x)]))
theorem okE1 {n : Int} {r : Int → List SC} (h0 : 0 ≤ n) (h1 : n ≤ 1048576) (hs : Shape SlFloat32.ts r) : SlFloat32.okE' n n r n n r = true := by
  unfold SlFloat32.okE'
  rw [show pB (n = n ∧ n = n ∧ 0 ≤ n ∧ n ≤ 1048576 ∧ Shape SlFloat32.ts r ∧ Shape SlFloat32.ts r) = true from pB_iff.2 ⟨rfl, rfl, h0, h1, hs, hs⟩, Bool.or_true]
theorem okE2 {n : Int} {r : Int → List SC} (h0 : 0 ≤ n) (h1 : n ≤ 1048576) (hs : Shape SlWall.ts r) : SlWall.okE' n n r n n r = true := by
  unfold SlWall.okE'
  rw [show pB (n = n ∧ n = n ∧ 0 ≤ n ∧ n ≤ 1048576 ∧ Shape SlWall.ts r ∧ Shape SlWall.ts r) = true from pB_iff.2 ⟨rfl, rfl, h0, h1, hs, hs⟩, Bool.or_true]
theorem okE3 {n : Int} {r : Int → List SC} (h0 : 0 ≤ n) (h1 : n ≤ 1048576) (hs : Shape SlPane.ts r) : SlPane.okE' n n r n n r = true := by
  unfold SlPane.okE'
  rw [show pB (n = n ∧ n = n ∧ 0 ≤ n ∧ n ≤ 1048576 ∧ Shape SlPane.ts r ∧ Shape SlPane.ts r) = true from pB_iff.2 ⟨rfl, rfl, h0, h1, hs, hs⟩, Bool.or_true]
theorem oE_ok {x : FD} (h : Sm x) (O : FOps) : AllT (oE O x) := by
  refine AllT.app (AllT.app (AllT.app ?_ (gdB_ok fun _ => ?_)) (gdB_ok fun _ => gdB_ok fun _ => ?_)) (gdB_ok fun _ => gdB_ok fun _ => gdB_ok fun _ => ?_)
  · exact AllT.cons (shF (C0_sh x)) (AllT.cons (shF (C0_sh x)) (AllT.one' (okE1 h.a.1 h.a.2 (C0_sh x))))
  · exact AllT.cons (shF (C1_sh x)) (AllT.cons (shF (C1_sh x)) (AllT.one' (okE1 h.b.1 h.b.2 (C1_sh x))))
  · exact AllT.cons (shF (C2_sh x)) (AllT.cons (shF (C2_sh x)) (AllT.one' (okE2 h.c.1 h.c.2 (C2_sh x))))
  · exact AllT.cons (shF (C3_sh x)) (AllT.cons (shF (C3_sh x)) (AllT.one' (okE3 h.d.1 h.d.2 (C3_sh x))))
/-- A law whose answer is plain; 'T': the answers differ. -/
def obP (O : FOps) (x : FD) (Ss Si : List Bool) (T : Bool) : List Bool := [!decide (sz x < 0)] ++ (oC x ++ Ss) ++ (oC x ++ Si) ++ [!T] ++ oC x ++ oE O x ++ [!!eqF O x]
theorem obP_ok {x : FD} (h : Sm x) (hz : decide (sz x < 0) = false) {Ss Si : List Bool} (hs : AllT Ss) (hi : AllT Si) {T : Bool} (hT : T = false) : AllT (obP fops x Ss Si T) := by
  have c := oC_ok h
  have e := oE_ok h fops
  unfold obP
  rw [hz, hT, eqF_true]
  simp only [AllT.iffApp]
  exact ⟨⟨⟨⟨⟨⟨AllT.one' rfl, c, hs⟩, c, hi⟩, AllT.one' rfl⟩, c⟩, e⟩, AllT.one' rfl⟩
end
end Go.Proofs.Ytopliajfonpbcaa.Fla
