/- Whether two flats are the same: the contracts, the law. Nothing is assumed. -/
import Derived.Test.YtopliajfonpbcaaSfb
namespace Go.Proofs.Ytopliajfonpbcaa.Sfl
open Go Fla
noncomputable section
def sls2 (x : Fl) (g : Fg) : List SC := [.sl 8 0 1 (.s x.n0) g.f0, .sl 7 0 1 (.s x.n1) g.f1, .sl 6 0 8 (.s x.n2) g.f2, .sl 5 0 4 (.s x.n3) g.f3]
def rd2 (x : Fl) (g : Fg) (l : List (Nat × Seg)) : List (Nat × Seg) := (5, ⟨g.w3, g.o3, .rows 4 x.N3 x.r3⟩) :: (6, ⟨g.w2, g.o2, .rows 8 x.N2 x.r2⟩) :: (7, ⟨g.w1, g.o1, .rows 1 x.N1 x.r1⟩) :: (8, ⟨g.w0, g.o0, .rows 1 x.N0 x.r0⟩) :: l
def a0 (x y : Fl) : Bool := sA x.n0 y.n0 x.r0 y.r0
def a1 (x y : Fl) : Bool := sA x.n1 y.n1 x.r1 y.r1
def dF (x y : Fl) : Bool := bif !a0 x y then true else bif !a1 x y then true else bif !decide (x.n2 = y.n2) then true else !decide (x.n3 = y.n3)
def e2 (x y : Fl) : Bool := eqFrom (fun k => sW (datF x.r2) (datF y.r2) (datG x.r2) (datG y.r2) k) 0 x.n2.toNat
def e3 (x y : Fl) : Bool := eqFrom (fun k => sP (datF x.r3) (datF y.r3) (datG x.r3) (datG y.r3) k) 0 x.n3.toNat
/-- Whether two flats are the same. -/
def sF (x y : Fl) : Bool := bif dF x y then false else bif !e2 x y then false else bif !e3 x y then false else true
def obF (x y : Fl) (p1 p2 : Prop) : List Bool := [flatR y.r0, flatR x.r0, SlFloat32.okE' x.n0 x.N0 x.r0 y.n0 y.N0 y.r0] ++ gdB (!a0 x y) [flatR y.r1, flatR x.r1, SlFloat32.okE' x.n1 x.N1 x.r1 y.n1 y.N1 y.r1] ++ gdB (dF x y) [flatR y.r3, flatR y.r2, flatR x.r3, flatR x.r2, pB p1] ++ gdB (dF x y) (gdB (!e2 x y) [flatR y.r3, flatR x.r3, pB p2])
set_option maxRecDepth 100000 in
theorem I_run (O : FOps) (x y : Fl) (g h : Fg) : roS (inl (cxM O) Try.f25 ⟨fun _ => none, lpOf [(4, I1L O), (11, I2L O)]⟩) 9 [.a (sls2 x g), .a (y.sls h)] (y.rd h (rd2 x g [])) =
    some ⟨.c (.bool (.s (sF x y))), [], 245, obF x y (I1P x.n2 x.n2 0 y.N3 y.N2 x.N3 x.N2 x.n2 x.n3 y.n2 y.n3 x.r2 x.r3 y.r2 y.r3) (I2P x.n3 x.n3 0 y.N3 x.N3 x.n3 y.n3 x.r3 y.r3)⟩ := by kernel_rfl

/-- The stores are no more than they may be. -/
def n1ok (x : Fl) : Bool := pB (0 ≤ x.n1 ∧ x.n1 ≤ 1048576)
def sfH : CS := fun base args rd => match args with
  | [.a [.sl xi0 xp0 xe0 (.s xn0) _, .sl xi1 xp1 xe1 (.s xn1) _, .sl xi2 xp2 xe2 (.s xn2) _, .sl xi3 xp3 xe3 (.s xn3) _], .a [.sl yi0 yp0 ye0 (.s yn0) _, .sl yi1 yp1 ye1 (.s yn1) _, .sl yi2 yp2 ye2 (.s yn2) _, .sl yi3 yp3 ye3 (.s yn3) _]] => match rd with
    | [(yj3, ⟨_, _, .rows ys3 yN3 yr3⟩), (yj2, ⟨_, _, .rows ys2 yN2 yr2⟩), (yj1, ⟨_, _, .rows ys1 yN1 yr1⟩), (yj0, ⟨_, _, .rows ys0 yN0 yr0⟩), (xj3, ⟨_, _, .rows xs3 xN3 xr3⟩), (xj2, ⟨_, _, .rows xs2 xN2 xr2⟩), (xj1, ⟨_, _, .rows xs1 xN1 xr1⟩), (xj0, ⟨_, _, .rows xs0 xN0 xr0⟩)] => match Nat.beq base 9 && (Nat.beq xi0 8 && (Nat.beq xp0 0 && (Nat.beq xe0 1 && (Nat.beq xj0 8 && (Nat.beq xs0 1 && (Nat.beq xi1 7 && (Nat.beq xp1 0 && (Nat.beq xe1 1 && (Nat.beq xj1 7 && (Nat.beq xs1 1 && (Nat.beq xi2 6 && (Nat.beq xp2 0 && (Nat.beq xe2 8 && (Nat.beq xj2 6 && (Nat.beq xs2 8 && (Nat.beq xi3 5 && (Nat.beq xp3 0 && (Nat.beq xe3 4 && (Nat.beq xj3 5 && (Nat.beq xs3 4 && (Nat.beq yi0 4 && (Nat.beq yp0 0 && (Nat.beq ye0 1 && (Nat.beq yj0 4 && (Nat.beq ys0 1 && (Nat.beq yi1 3 && (Nat.beq yp1 0 && (Nat.beq ye1 1 && (Nat.beq yj1 3 && (Nat.beq ys1 1 && (Nat.beq yi2 2 && (Nat.beq yp2 0 && (Nat.beq ye2 8 && (Nat.beq yj2 2 && (Nat.beq ys2 8 && (Nat.beq yi3 1 && (Nat.beq yp3 0 && (Nat.beq ye3 4 && (Nat.beq yj3 1 && (Nat.beq ys3 4)))))))))))))))))))))))))))))))))))))))) with
      | true => some ⟨.c (.bool (.s (sF ⟨xn0, xn1, xn2, xn3, xN0, xN1, xN2, xN3, xr0, xr1, xr2, xr3⟩ ⟨yn0, yn1, yn2, yn3, yN0, yN1, yN2, yN3, yr0, yr1, yr2, yr3⟩))), [], 245, [Fl.ok ⟨xn0, xn1, xn2, xn3, xN0, xN1, xN2, xN3, xr0, xr1, xr2, xr3⟩, Fl.ok ⟨yn0, yn1, yn2, yn3, yN0, yN1, yN2, yN3, yr0, yr1, yr2, yr3⟩, n1ok ⟨xn0, xn1, xn2, xn3, xN0, xN1, xN2, xN3, xr0, xr1, xr2, xr3⟩]⟩
      | false => none
    | _ => none
  | _ => none
theorem sfH_some {base : Nat} {args : List SV} {rd : List (Nat × Seg)} {e : CEff} (h : sfH base args rd = some e) : ∃ x y g h, base = 9 ∧ args = [.a (sls2 x g), .a (y.sls h)] ∧ rd = y.rd h (rd2 x g []) ∧ e = ⟨.c (.bool (.s (sF x y))), [], 245, [x.ok, y.ok, n1ok x]⟩ := by
  unfold sfH at h
  split at h <;> try (cases h; done)
  rename_i xi0 xp0 xe0 xn0 xf0 xi1 xp1 xe1 xn1 xf1 xi2 xp2 xe2 xn2 xf2 xi3 xp3 xe3 xn3 xf3 yi0 yp0 ye0 yn0 yf0 yi1 yp1 ye1 yn1 yf1 yi2 yp2 ye2 yn2 yf2 yi3 yp3 ye3 yn3 yf3
  split at h <;> try (cases h; done)
  rename_i yj3 yw3 yo3 ys3 yN3 yr3 yj2 yw2 yo2 ys2 yN2 yr2 yj1 yw1 yo1 ys1 yN1 yr1 yj0 yw0 yo0 ys0 yN0 yr0 xj3 xw3 xo3 xs3 xN3 xr3 xj2 xw2 xo2 xs2 xN2 xr2 xj1 xw1 xo1 xs1 xN1 xr1 xj0 xw0 xo0 xs0 xN0 xr0
  split at h <;> cases h
  rename_i hc
  simp only [Bool.and_eq_true, beqN] at hc
  obtain ⟨rfl, rfl, rfl, rfl, rfl, rfl, rfl, rfl, rfl, rfl, rfl, rfl, rfl, rfl, rfl, rfl, rfl, rfl, rfl, rfl, rfl, rfl, rfl, rfl, rfl, rfl, rfl, rfl, rfl, rfl, rfl, rfl, rfl, rfl, rfl, rfl, rfl, rfl, rfl, rfl, rfl⟩ := hc
  exact ⟨⟨xn0, xn1, xn2, xn3, xN0, xN1, xN2, xN3, xr0, xr1, xr2, xr3⟩, ⟨yn0, yn1, yn2, yn3, yN0, yN1, yN2, yN3, yr0, yr1, yr2, yr3⟩, ⟨xf0, xf1, xf2, xf3, xw0, xw1, xw2, xw3, xo0, xo1, xo2, xo3, true, true⟩, ⟨yf0, yf1, yf2, yf3, yw0, yw1, yw2, yw3, yo0, yo1, yo2, yo3, true, true⟩, rfl, rfl, rfl, rfl⟩
theorem dF_false {x y : Fl} (h : dF x y = false) : x.n2 = y.n2 ∧ x.n3 = y.n3 := by
  unfold dF at h
  cases h0 : a0 x y with
  | false => rw [h0] at h; cases h
  | true =>
    cases h1 : a1 x y with
    | false => rw [h0, h1] at h; cases h
    | true =>
      rw [h0, h1] at h
      by_cases h2 : x.n2 = y.n2
      · rw [decide_eq_true h2] at h
        exact ⟨h2, by simpa using h⟩
      · rw [decide_eq_false h2] at h; cases h
theorem okE_of {n N m M : Int} {r r' : Int → List SC} (h0 : 0 ≤ n) (h1 : n ≤ 1048576) (h2 : N = n) (h3 : M = m) (s : Shape SlFloat32.ts r) (s' : Shape SlFloat32.ts r') : SlFloat32.okE' n N r m M r' = true := by
  unfold SlFloat32.okE'
  by_cases e : n = m
  · rw [show pB (N = n ∧ M = n ∧ 0 ≤ n ∧ n ≤ 1048576 ∧ Shape SlFloat32.ts r ∧ Shape SlFloat32.ts r') = true from pB_iff.2 ⟨h2, h3.trans e.symm, h0, h1, s, s'⟩, Bool.or_true]
  · rw [decide_eq_false e]; rfl
theorem obF_ok {x y : Fl} {p1 p2 : Prop} (hx : x.ok = true) (hy : y.ok = true) (h1 : n1ok x = true) (hp1 : x.n2 = y.n2 → p1) (hp2 : x.n3 = y.n3 → p2) : AllT (obF x y p1 p2) := by
  obtain ⟨u0, u1, u2, u3, b0, c0, b2, c2, b3, c3, s0, s1, s2, s3⟩ := pB_iff.1 hx
  obtain ⟨v0, v1, v2, v3, k0, l0, k2, l2, k3, l3, t0, t1, t2, t3⟩ := pB_iff.1 hy
  obtain ⟨m0, m1⟩ := pB_iff.1 h1
  refine AllT.app (AllT.app (AllT.app ?_ (gdB_ok fun _ => ?_)) (gdB_ok fun hd => ?_)) (gdB_ok fun hd => gdB_ok fun _ => ?_)
  · exact AllT.cons (shF t0) (AllT.cons (shF s0) (AllT.one' (okE_of b0 c0 u0 v0 s0 t0)))
  · exact AllT.cons (shF t1) (AllT.cons (shF s1) (AllT.one' (okE_of m0 m1 u1 v1 s1 t1)))
  · exact AllT.cons (shF t3) (AllT.cons (shF t2) (AllT.cons (shF s3) (AllT.cons (shF s2) (AllT.one' (pB_iff.2 (hp1 (dF_false hd).1))))))
  · exact AllT.cons (shF t3) (AllT.cons (shF s3) (AllT.one' (pB_iff.2 (hp2 (dF_false hd).2))))
def Ii (O : FOps) : CS := inl (cxM O) Try.f25 ⟨fun _ => none, lpOf [(4, I1L O), (11, I2L O)]⟩
def Si (O : FOps) : CS := inl (cxM O) Try.f51 ⟨fun _ => none, lpOf [(4, S1L O), (11, S2L O)]⟩
set_option maxRecDepth 100000 in
theorem Ic : CallOK Try.prog 25 (Ii fops) := by
  have hb : Try.f25.body.isSome = true := by kernel_rfl
  obtain ⟨c, hc⟩ := Option.isSome_iff_exists.1 hb
  have h1 : (match Try.f25.body with | some c => onceB (loopsIn c) && ((match loopAt 4 (loopsIn c) with | some _ => true | none => false) && (match loopAt 11 (loopsIn c) with | some _ => true | none => false)) | none => false) = true := by kernel_rfl
  rw [hc] at h1
  simp only [Bool.and_eq_true] at h1
  exact inlL_of (l := LM fops) (ls := [(4, I1L fops), (11, I2L fops)]) okLM mixed 8 Try.func25 (by kernel_rfl) (fun _ => none) hc h1.1 ⟨⟨_, bodyOf_at hc h1.2.1, I1o⟩, ⟨_, bodyOf_at hc h1.2.2, I2o⟩, trivial⟩
set_option maxRecDepth 100000 in
theorem Sc : CallOK Try.prog 51 (Si fops) := by
  have hb : Try.f51.body.isSome = true := by kernel_rfl
  obtain ⟨c, hc⟩ := Option.isSome_iff_exists.1 hb
  have h1 : (match Try.f51.body with | some c => onceB (loopsIn c) && ((match loopAt 4 (loopsIn c) with | some _ => true | none => false) && (match loopAt 11 (loopsIn c) with | some _ => true | none => false)) | none => false) = true := by kernel_rfl
  rw [hc] at h1
  simp only [Bool.and_eq_true] at h1
  exact inlL_of (l := LM fops) (ls := [(4, S1L fops), (11, S2L fops)]) okLM mixed 8 Try.func51 (by kernel_rfl) (fun _ => none) hc h1.1 ⟨⟨_, bodyOf_at hc h1.2.1, S1o⟩, ⟨_, bodyOf_at hc h1.2.2, S2o⟩, trivial⟩
def LM3 (O : FOps) : List (Nat × CS) := (51, Si O) :: LM O
set_option maxRecDepth 100000 in
theorem okLM3 : AllOK Try.prog (LM3 fops) := ⟨Sc, okLM⟩
set_option maxRecDepth 100000 in
theorem S_run (O : FOps) (x y : Fl) (g h : Fg) : roS (inl ⟨Try.prog, O, orcN Try.prog O (LM3 O) 8⟩ Try.f23 noH) 9 [.a (sls2 x g), .a (y.sls h)] (y.rd h (rd2 x g [])) =
    some ⟨.c (.bool (.s (sF x y))), [], 245, obF x y (S1P 0 y.N3 y.N2 x.N3 x.N2 x.n2 x.n3 y.n2 y.n3 x.r2 x.r3 y.r2 y.r3) (S2P 0 y.N3 x.N3 x.n3 y.n3 x.r3 y.r3)⟩ := by kernel_rfl
def smI (O : FOps) : CS := orS (canS sfH) (inl (cxM O) Try.f25 noH)
def smS (O : FOps) : CS := orS (canS sfH) (inl (cxM O) Try.f23 noH)
set_option maxRecDepth 100000 in
theorem cSmI : CallOK Try.prog 25 (smI fops) :=
  (CallOK.hand (H := sfH) Ic.ro fun b args rd e h hob => by
    obtain ⟨x, y, g, g2, rfl, rfl, rfl, rfl⟩ := sfH_some h
    have hx := hob.head
    have hy := hob.tail.head
    have h1 := hob.tail.tail.head
    obtain ⟨u0, u1, u2, u3, b0, c0, b2, c2, b3, c3, s0, s1, s2, s3⟩ := pB_iff.1 hx
    obtain ⟨v0, v1, v2, v3, k0, l0, k2, l2, k3, l3, t0, t1, t2, t3⟩ := pB_iff.1 hy
    exact ⟨_, I_run fops x y g g2, obF_ok hx hy h1 (fun e => ⟨rfl, rfl, rfl, v3, v2, u3, u2, e.symm, b2, c2, s2, s3, t2, t3⟩) (fun e => ⟨rfl, rfl, rfl, v3, u3, e.symm, b3, c3, s3, t3⟩)⟩).can.or
    (inlN_of (l := LM fops) okLM mixed 8 Try.func25 (by kernel_rfl) (fun _ => none))
set_option maxRecDepth 100000 in
theorem cSmS : CallOK Try.prog 23 (smS fops) :=
  (CallOK.hand (H := sfH) (inlN_of (l := LM3 fops) okLM3 mixed 8 Try.func23 (by kernel_rfl) (fun _ => none)).ro fun b args rd e h hob => by
    obtain ⟨x, y, g, g2, rfl, rfl, rfl, rfl⟩ := sfH_some h
    have hx := hob.head
    have hy := hob.tail.head
    have h1 := hob.tail.tail.head
    obtain ⟨u0, u1, u2, u3, b0, c0, b2, c2, b3, c3, s0, s1, s2, s3⟩ := pB_iff.1 hx
    obtain ⟨v0, v1, v2, v3, k0, l0, k2, l2, k3, l3, t0, t1, t2, t3⟩ := pB_iff.1 hy
    exact ⟨_, S_run fops x y g g2, obF_ok hx hy h1 (fun e => ⟨rfl, v3, v2, u3, u2, e.symm, b2, c2, s2, s3, t2, t3⟩) (fun e => ⟨rfl, v3, u3, e.symm, b3, c3, s3, t3⟩)⟩).can.or
    (inlN_of (l := LM fops) okLM mixed 8 Try.func23 (by kernel_rfl) (fun _ => none))
/-! ### the law -/
def LL (O : FOps) : List (Nat × CS) := (25, smI O) :: (23, smS O) :: LW O
set_option maxRecDepth 100000 in
theorem okLL : AllOK Try.prog (LL fops) := ⟨cSmI, cSmS, okLW⟩
def hLaw : List (Nat × Bool) := [(14, false), (19, false), (34, false), (39, false), (44, false)]
def flA1 (x : FD) : SV := .a [.sl 5 0 1 (.s x.n0) false, .sl 6 0 1 (.s x.n1) false, .sl 7 0 8 (.s x.n2) false, .sl 8 0 4 (.s x.n3) false]
def flA01 : SV := .a [.sl 5 0 1 (.c 0) false, .sl 6 0 1 (.c 0) false, .sl 7 0 8 (.c 0) false, .sl 8 0 4 (.c 0) false]
def rdB (x y : FD) : List (Nat × Seg) := rdA x ++ [(5, ⟨false, false, .rows 1 y.n0 y.R0⟩), (6, ⟨false, false, .rows 1 y.n1 y.R1⟩), (7, ⟨false, false, .rows 8 y.n2 y.R2⟩), (8, ⟨false, false, .rows 4 y.n3 y.R3⟩)]
def run (O : FOps) (hl : List (Nat × Bool)) (v v' : SV) (rd : List (Nat × Seg)) : Option (SV × List Bool) :=
  rE 9 (inl ⟨Try.prog, O, orcN Try.prog O (LL O) 8⟩ Try.f4 ⟨hints hl, fun _ => none⟩ 9 [v, v'] rd)
def m0 (l : Int) (x : FD) : Int := lz x.n0 l
def m1 (l : Int) (x : FD) : Int := lz x.n1 (m0 l x)
def m2 (l : Int) (x : FD) : Int := lz x.n2 (m1 l x)
def m3 (l : Int) (x : FD) : Int := lz x.n3 (m2 l x)
def sz2 (l : Int) (x : FD) : Int := bif decide (m0 l x < 0) then (-1 : Int) else bif decide (m1 l x < 0) then (-1 : Int) else bif decide (m2 l x < 0) then (-1 : Int) else bif decide (m3 l x < 0) then (-1 : Int) else m3 l x
def oS (x y : FD) : List Bool := [flatR (C3 y), flatR (C2 y), flatR (C1 y), flatR (C0 y), flatR (C3 x), flatR (C2 x), flatR (C1 x), flatR (C0 x), x.fl.ok, y.fl.ok, n1ok x.fl]
set_option maxRecDepth 100000 in
theorem run_ok (O : FOps) (x y : FD) : run O hLaw (flA x) (flA1 y) (rdB x y) = some (.c (.bool .t), [!decide (sz x < 0), !decide (sz2 (sz x) y < 0)] ++ (oC x ++ (oC y ++ (oS x y ++ (oC x ++ (oC y ++ (oS x y ++ ([!!(sF x.fl y.fl == sF x.fl y.fl)] ++ (oC x ++ (oE O x ++ ([!!eqF O x] ++ (oC y ++ (oE O y ++ [!!eqF O y])))))))))))) ) := by kernel_rfl
set_option maxRecDepth 100000 in
theorem run_big (O : FOps) (x y : FD) : run O [(14, true)] (flA x) (flA1 y) (rdB x y) = some (.c (.bool .t), [decide (sz x < 0)]) := by kernel_rfl
set_option maxRecDepth 100000 in
theorem run_big2 (O : FOps) (x y : FD) : run O [(14, false), (19, true)] (flA x) (flA1 y) (rdB x y) = some (.c (.bool .t), [!decide (sz x < 0), decide (sz2 (sz x) y < 0)]) := by kernel_rfl
set_option maxRecDepth 100000 in
theorem run0 (O : FOps) : run O hLaw flA0 flA01 [] = some (.c (.bool .t), [true]) := by kernel_rfl
theorem sz_val {x : FD} (hn : Nn x) (h : decide (sz x < 0) = false) : 0 ≤ sz x ∧ sz x ≤ 1048576 := by
  have h' : ¬ sz x < 0 := of_decide_eq_false h
  have h2 := h'
  unfold sz at h'
  by_cases e0 : l0 x < 0
  · rw [decide_eq_true e0] at h'; exact absurd (show (-1 : Int) < 0 by decide) h'
  rw [decide_eq_false e0] at h'
  by_cases e1 : l1 x < 0
  · rw [decide_eq_true e1] at h'; exact absurd (show (-1 : Int) < 0 by decide) h'
  rw [decide_eq_false e1] at h'
  by_cases e2 : l2 x < 0
  · rw [decide_eq_true e2] at h'; exact absurd (show (-1 : Int) < 0 by decide) h'
  rw [decide_eq_false e2] at h'
  by_cases e3 : l3 x < 0
  · rw [decide_eq_true e3] at h'; exact absurd (show (-1 : Int) < 0 by decide) h'
  have e : sz x = l3 x := by unfold sz; rw [decide_eq_false e0, decide_eq_false e1, decide_eq_false e2, decide_eq_false e3]; rfl
  obtain ⟨a1, a2⟩ := lz_eq hn.a.1 hn.a.2 (by decide) (Int.le_refl _) e0
  have a3 : l0 x = 1048576 - x.n0 := a2
  have := hn.a.1
  obtain ⟨b1, b2⟩ := lz_eq hn.b.1 hn.b.2 (l := l0 x) (by omega) (by omega) e1
  have b3 : l1 x = l0 x - x.n1 := b2
  have := hn.b.1
  obtain ⟨c1, c2⟩ := lz_eq hn.c.1 hn.c.2 (l := l1 x) (by omega) (by omega) e2
  have c3 : l2 x = l1 x - x.n2 := c2
  have := hn.c.1
  obtain ⟨d1, d2⟩ := lz_eq hn.d.1 hn.d.2 (l := l2 x) (by omega) (by omega) e3
  have d3 : l3 x = l2 x - x.n3 := d2
  have := hn.d.1
  omega
theorem sz2_small {l : Int} {x : FD} (k0 : 0 ≤ l) (k1 : l ≤ 1048576) (hn : Nn x) (h : decide (sz2 l x < 0) = false) : Sm x := by
  have h' : ¬ sz2 l x < 0 := of_decide_eq_false h
  unfold sz2 at h'
  by_cases e0 : m0 l x < 0
  · rw [decide_eq_true e0] at h'; exact absurd (show (-1 : Int) < 0 by decide) h'
  rw [decide_eq_false e0] at h'
  by_cases e1 : m1 l x < 0
  · rw [decide_eq_true e1] at h'; exact absurd (show (-1 : Int) < 0 by decide) h'
  rw [decide_eq_false e1] at h'
  by_cases e2 : m2 l x < 0
  · rw [decide_eq_true e2] at h'; exact absurd (show (-1 : Int) < 0 by decide) h'
  rw [decide_eq_false e2] at h'
  by_cases e3 : m3 l x < 0
  · rw [decide_eq_true e3] at h'; exact absurd (show (-1 : Int) < 0 by decide) h'
  obtain ⟨a1, a2⟩ := lz_eq hn.a.1 hn.a.2 (l := l) k0 k1 e0
  have a3 : m0 l x = l - x.n0 := a2
  have := hn.a.1
  obtain ⟨b1, b2⟩ := lz_eq hn.b.1 hn.b.2 (l := m0 l x) (by omega) (by omega) e1
  have b3 : m1 l x = m0 l x - x.n1 := b2
  have := hn.b.1
  obtain ⟨c1, c2⟩ := lz_eq hn.c.1 hn.c.2 (l := m1 l x) (by omega) (by omega) e2
  have c3 : m2 l x = m1 l x - x.n2 := c2
  have := hn.c.1
  obtain ⟨d1, d2⟩ := lz_eq hn.d.1 hn.d.2 (l := m2 l x) (by omega) (by omega) e3
  have := hn.d.1
  exact ⟨by omega, by omega, by omega, by omega⟩
theorem oS_ok {x y : FD} (h : Sm x) (k : Sm y) : AllT (oS x y) :=
  AllT.cons (shF (C3_sh y)) (AllT.cons (shF (C2_sh y)) (AllT.cons (shF (C1_sh y)) (AllT.cons (shF (C0_sh y)) (AllT.cons (shF (C3_sh x)) (AllT.cons (shF (C2_sh x)) (AllT.cons (shF (C1_sh x)) (AllT.cons (shF (C0_sh x)) (AllT.cons (fl_ok h) (AllT.cons (fl_ok k) (AllT.one' (pB_iff.2 h.b)))))))))))
theorem law_all {x y : FD} (hn : Nn x) (hm : Nn y) : ∃ hl ob, run fops hl (flA x) (flA1 y) (rdB x y) = some (.c (.bool .t), ob) ∧ AllT ob := by
  cases hz : decide (sz x < 0) with
  | true => exact ⟨_, _, run_big fops x y, AllT.one' hz⟩
  | false =>
    cases hz2 : decide (sz2 (sz x) y < 0) with
    | true => exact ⟨_, _, run_big2 fops x y, AllT.cons (by rw [hz]; rfl) (AllT.one' hz2)⟩
    | false =>
      obtain ⟨k0, k1⟩ := sz_val hn hz
      have h := sz_small hn hz
      have k := sz2_small k0 k1 hm hz2
      refine ⟨_, _, run_ok fops x y, ?_⟩
      have c1 := oC_ok h
      have c2 := oC_ok k
      have s := oS_ok h k
      rw [hz, hz2, eqF_true, eqF_true]
      simp only [AllT.iffApp]
      exact ⟨AllT.cons rfl (AllT.one' rfl), c1, c2, s, c1, c2, s, AllT.one' (by simp), c1, oE_ok h fops, AllT.one' rfl, c2, oE_ok k fops, AllT.one' rfl⟩
theorem law_all0 : ∃ hl ob, run fops hl flA0 flA01 [] = some (.c (.bool .t), ob) ∧ AllT ob := ⟨_, _, run0 fops, AllT.one' rfl⟩
end
end Go.Proofs.Ytopliajfonpbcaa.Sfl
