/- Sums over a flat. Nothing is assumed. -/
import Derived.Test.YtopliajfonpbcaaFll
namespace Go.Proofs.Ytopliajfonpbcaa.Fla
open Go Fla
noncomputable section
/-- The numbers of rows. -/
def mkFD (r0 r1 r2 r3 : Int → List SC) (n0 n1 n2 n3 : Int) : FD := ⟨datF r0, datF r1, datF r2, datF r3, datG r0, datG r1, datG r2, datG r3, n0, n1, n2, n3⟩
def daR (r0 r1 r2 r3 : Int → List SC) (n0 n1 n2 n3 : Int) : List LD := [.i n3, .r r3, .i n2, .r r2, .i n1, .r r1, .i n0, .r r0, .i n0, .i n1, .i n2, .i n3]
theorem daA_eq {r0 r1 r2 r3 : Int → List SC} {n0 n1 n2 n3 : Int} (s0 : Shape SlFloat32.ts r0) (s1 : Shape SlFloat32.ts r1) (s2 : Shape SlWall.ts r2) (s3 : Shape SlPane.ts r3) : daA (mkFD r0 r1 r2 r3 n0 n1 n2 n3) = daR r0 r1 r2 r3 n0 n1 n2 n3 := by
  unfold daA daR FD.R0 FD.R1 FD.R2 FD.R3 mkFD
  rw [← (show r0 = SlFloat32.Row (datF r0) (datG r0) from s0), ← (show r1 = SlFloat32.Row (datF r1) (datG r1) from s1), ← (show r2 = SlWall.Row (datF r2) (datG r2) from s2), ← (show r3 = SlPane.Row (datF r3) (datG r3) from s3)]
def fl4 (x : FD) : List Bool := [flatR x.R3, flatR x.R2, flatR x.R1, flatR x.R0]
theorem fl4_ok (x : FD) : AllT (fl4 x) := AllT.cons x.f3 (AllT.cons x.f2 (AllT.cons x.f1 (AllT.one' x.f0)))
/-- A sum that keeps to something. -/
theorem fold_loopsI {cx : Cx} {N : Nat} {lp : Nat → Option (List Ly → Top → Option Outs)} {c : Code} {nx0 mx : Nat} {sk : Sk} {S : Type} {skE : Sk} {D : Int → S → List LD} {E : S → List LD} {f : Int → S → S} {n : Int} {xE : XK} (I : Int → S → Prop)
    (h0 : ∀ k s, 0 ≤ k → k < n → I k s → I (k + 1) (f k s))
    (h1 : ∀ k s, 0 ≤ k → k < n → I k s → Goes cx N lp c nx0 mx sk sk (D k s) none (D (k + 1) (f k s)))
    (h3 : ∀ s, Goes cx N lp c nx0 mx sk skE (D n s) (some xE) (E s)) : ∀ (m : Nat) (k : Int) (s : S), 0 ≤ k → k + m = n → I k s →
    Loops cx N lp c nx0 mx sk (D k s) xE skE (E (foldFrom f k m s)) := by
  intro m
  induction m with
  | zero =>
    intro k s hk hkn _
    have e : k = n := by omega
    subst e
    exact (h3 s).done
  | succ m ih =>
    intro k s hk hkn hi
    exact (h1 k s hk (by omega) hi).step (ih (k + 1) (f k s) (by omega) (by omega) (h0 k s hk (by omega) hi))
def xFD (x : Fl) : FD := mkFD x.r0 x.r1 x.r2 x.r3 x.n0 x.n1 x.n2 x.n3
def flR (x : Fl) : List Bool := [flatR x.r3, flatR x.r2, flatR x.r1, flatR x.r0]
theorem flR_ok {x : Fl} (h : x.ok = true) : AllT (flR x) := by
  obtain ⟨_, _, _, _, _, _, _, _, _, _, s0, s1, s2, s3⟩ := pB_iff.1 h
  exact AllT.cons (shF s3) (AllT.cons (shF s2) (AllT.cons (shF s1) (AllT.one' (shF s0))))
theorem okd2 {x : Fl} (h : x.ok = true) : Okd x.n3 x.n2 x.n1 x.n0 x.n0 x.n1 x.n2 x.n3 x.r0 x.r1 x.r2 x.r3 := by
  obtain ⟨_, _, _, _, h'⟩ := pB_iff.1 h
  exact ⟨rfl, rfl, rfl, rfl, h'⟩
theorem v4_true {g a b c : Bool} (h : v4 g a b c = true) : g = false ∧ a = true ∧ b = true ∧ c = true := by
  cases g <;> cases a <;> cases b <;> cases c <;> first | exact ⟨rfl, rfl, rfl, rfl⟩ | cases h
theorem vF_true {O : FOps} {x : Fl} (h : vF O x = true) : rgI x.n0 x.n1 x.n2 x.n3 = false ∧ e1 O x = true ∧ e2 O x = true ∧ e3 O x = true := v4_true h
theorem nb {b : Bool} (h : (!b) = false) : b = true := by cases b <;> first | rfl | cases h
end
end Go.Proofs.Ytopliajfonpbcaa.Fla
