/- Whether a flat is valid: the contracts. Nothing is assumed. -/
import Derived.Test.YtopliajfonpbcaaFlv
namespace Go.Proofs.Ytopliajfonpbcaa.Fla
open Go
noncomputable section
/-- A flat as a call sees it. -/
structure Fl where
  n0 : Int
  n1 : Int
  n2 : Int
  n3 : Int
  N0 : Int
  N1 : Int
  N2 : Int
  N3 : Int
  r0 : Int → List SC
  r1 : Int → List SC
  r2 : Int → List SC
  r3 : Int → List SC
def Fl.ok (x : Fl) : Bool := pB (Okd x.N3 x.N2 x.N1 x.N0 x.n0 x.n1 x.n2 x.n3 x.r0 x.r1 x.r2 x.r3)
structure Fg where
  f0 : Bool
  f1 : Bool
  f2 : Bool
  f3 : Bool
  w0 : Bool
  w1 : Bool
  w2 : Bool
  w3 : Bool
  o0 : Bool
  o1 : Bool
  o2 : Bool
  o3 : Bool
  w : Bool
  o : Bool
def Fl.sls (x : Fl) (g : Fg) : List SC := [.sl 4 0 1 (.s x.n0) g.f0, .sl 3 0 1 (.s x.n1) g.f1, .sl 2 0 8 (.s x.n2) g.f2, .sl 1 0 4 (.s x.n3) g.f3]
def Fl.rd (x : Fl) (g : Fg) (l : List (Nat × Seg)) : List (Nat × Seg) := (1, ⟨g.w3, g.o3, .rows 4 x.N3 x.r3⟩) :: (2, ⟨g.w2, g.o2, .rows 8 x.N2 x.r2⟩) :: (3, ⟨g.w1, g.o1, .rows 1 x.N1 x.r1⟩) :: (4, ⟨g.w0, g.o0, .rows 1 x.N0 x.r0⟩) :: l
def Fl.box (x : Fl) (g : Fg) : List (Nat × Seg) := [(5, ⟨g.w, g.o, .cells (x.sls g)⟩)]
def isFl (i0 p0 e0 i1 p1 e1 i2 p2 e2 i3 p3 e3 j0 s0 j1 s1 j2 s2 j3 s3 : Nat) : Bool :=
  Nat.beq i0 4 && (Nat.beq p0 0 && (Nat.beq e0 1 && (Nat.beq i1 3 && (Nat.beq p1 0 && (Nat.beq e1 1 && (Nat.beq i2 2 && (Nat.beq p2 0 && (Nat.beq e2 8 && (Nat.beq i3 1 && (Nat.beq p3 0 && (Nat.beq e3 4 &&
  (Nat.beq j0 4 && (Nat.beq s0 1 && (Nat.beq j1 3 && (Nat.beq s1 1 && (Nat.beq j2 2 && (Nat.beq s2 8 && (Nat.beq j3 1 && Nat.beq s3 4))))))))))))))))))
def flV (base : Nat) (args : List SV) (rd : List (Nat × Seg)) : Option (Fl × List SV) :=
  match args with
  | .a [.sl i0 p0 e0 (.s n0) _, .sl i1 p1 e1 (.s n1) _, .sl i2 p2 e2 (.s n2) _, .sl i3 p3 e3 (.s n3) _] :: rest => match rd with
    | [(j3, ⟨_, _, .rows s3 N3 r3⟩), (j2, ⟨_, _, .rows s2 N2 r2⟩), (j1, ⟨_, _, .rows s1 N1 r1⟩), (j0, ⟨_, _, .rows s0 N0 r0⟩)] => match Nat.beq base 5 && isFl i0 p0 e0 i1 p1 e1 i2 p2 e2 i3 p3 e3 j0 s0 j1 s1 j2 s2 j3 s3 with
      | true => some (⟨n0, n1, n2, n3, N0, N1, N2, N3, r0, r1, r2, r3⟩, rest)
      | false => none
    | _ => none
  | _ => none
def flP (base : Nat) (args : List SV) (rd : List (Nat × Seg)) : Option (Fl × List SV) :=
  match args with
  | .c (.ptr j q) :: rest => match rd with
    | [(j3, ⟨_, _, .rows s3 N3 r3⟩), (j2, ⟨_, _, .rows s2 N2 r2⟩), (j1, ⟨_, _, .rows s1 N1 r1⟩), (j0, ⟨_, _, .rows s0 N0 r0⟩), (j', ⟨_, _, .cells [.sl i0 p0 e0 (.s n0) _, .sl i1 p1 e1 (.s n1) _, .sl i2 p2 e2 (.s n2) _, .sl i3 p3 e3 (.s n3) _]⟩)] => match Nat.beq base 6 && (Nat.beq j 5 && (Nat.beq q 0 && (Nat.beq j' 5 && isFl i0 p0 e0 i1 p1 e1 i2 p2 e2 i3 p3 e3 j0 s0 j1 s1 j2 s2 j3 s3))) with
      | true => some (⟨n0, n1, n2, n3, N0, N1, N2, N3, r0, r1, r2, r3⟩, rest)
      | false => none
    | _ => none
  | _ => none
theorem flV_some {base : Nat} {args : List SV} {rd : List (Nat × Seg)} {x : Fl} {rest : List SV} (h : flV base args rd = some (x, rest)) : ∃ g, base = 5 ∧ args = .a (x.sls g) :: rest ∧ rd = x.rd g [] := by
  unfold flV at h
  split at h <;> try (cases h; done)
  rename_i i0 p0 e0 n0 f0 i1 p1 e1 n1 f1 i2 p2 e2 n2 f2 i3 p3 e3 n3 f3 rest'
  split at h <;> try (cases h; done)
  rename_i j3 w3 o3 s3 N3 r3 j2 w2 o2 s2 N2 r2 j1 w1 o1 s1 N1 r1 j0 w0 o0 s0 N0 r0
  split at h <;> cases h
  rename_i hc
  unfold isFl at hc
  simp only [Bool.and_eq_true, beqN] at hc
  obtain ⟨rfl, rfl, rfl, rfl, rfl, rfl, rfl, rfl, rfl, rfl, rfl, rfl, rfl, rfl, rfl, rfl, rfl, rfl, rfl, rfl, rfl⟩ := hc
  exact ⟨⟨f0, f1, f2, f3, w0, w1, w2, w3, o0, o1, o2, o3, true, true⟩, rfl, rfl, rfl⟩
theorem flP_some {base : Nat} {args : List SV} {rd : List (Nat × Seg)} {x : Fl} {rest : List SV} (h : flP base args rd = some (x, rest)) : ∃ g, base = 6 ∧ args = .c (.ptr 5 0) :: rest ∧ rd = x.rd g (x.box g) := by
  unfold flP at h
  split at h <;> try (cases h; done)
  rename_i j q rest'
  split at h <;> try (cases h; done)
  rename_i j3 w3 o3 s3 N3 r3 j2 w2 o2 s2 N2 r2 j1 w1 o1 s1 N1 r1 j0 w0 o0 s0 N0 r0 j' w o i0 p0 e0 n0 f0 i1 p1 e1 n1 f1 i2 p2 e2 n2 f2 i3 p3 e3 n3 f3
  split at h <;> cases h
  rename_i hc
  unfold isFl at hc
  simp only [Bool.and_eq_true, beqN] at hc
  obtain ⟨rfl, rfl, rfl, rfl, rfl, rfl, rfl, rfl, rfl, rfl, rfl, rfl, rfl, rfl, rfl, rfl, rfl, rfl, rfl, rfl, rfl, rfl, rfl, rfl⟩ := hc
  exact ⟨⟨f0, f1, f2, f3, w0, w1, w2, w3, o0, o1, o2, o3, w, o⟩, rfl, rfl, rfl⟩
/-- A call that looks at a flat and answers with a plain value. -/
def flH (D : Nat → List SV → List (Nat × Seg) → Option (Fl × List SV)) (nx : Nat) (V : Fl → List SV → Option (SV × List Bool)) : CS := fun base args rd => match D base args rd with
  | some (x, rest) => match V x rest with
    | some (v, ob) => some ⟨v, [], nx, x.ok :: ob⟩
    | none => none
  | none => none
/-! ### valid -/
def rgI (n0 n1 n2 n3 : Int) : Bool := bif decide (n0 < 1) then true else bif decide (5 < n0) then true else bif !decide (n1 = n0) then true else bif decide (10 < n2) then true else decide (8 < n3)
def rgS (n0 n1 n2 n3 : Int) : Bool := bif !(bif decide (1 ≤ n0) then decide (n0 ≤ 5) else false) then true else bif !decide (n1 = n0) then true else bif decide (10 < n2) then true else decide (8 < n3)
theorem rg_eq (n0 n1 n2 n3 : Int) : rgS n0 n1 n2 n3 = rgI n0 n1 n2 n3 := by
  unfold rgS rgI
  by_cases h : n0 < 1
  · rw [decide_eq_true h, decide_eq_false (by omega : ¬ 1 ≤ n0)]; rfl
  · rw [decide_eq_false h, decide_eq_true (by omega : 1 ≤ n0)]
    by_cases h2 : 5 < n0
    · rw [decide_eq_true h2, decide_eq_false (by omega : ¬ n0 ≤ 5)]; rfl
    · rw [decide_eq_false h2, decide_eq_true (by omega : n0 ≤ 5)]; rfl
theorem rgI_false {n0 n1 n2 n3 : Int} (h : rgI n0 n1 n2 n3 = false) : 1 ≤ n0 ∧ n0 ≤ 5 ∧ n1 = n0 ∧ n2 ≤ 10 ∧ n3 ≤ 8 := by
  unfold rgI at h
  by_cases h1 : n0 < 1
  · rw [decide_eq_true h1] at h; cases h
  · rw [decide_eq_false h1] at h
    by_cases h2 : 5 < n0
    · rw [decide_eq_true h2] at h; cases h
    · rw [decide_eq_false h2] at h
      by_cases h3 : n1 = n0
      · rw [decide_eq_true h3] at h
        by_cases h4 : 10 < n2
        · rw [decide_eq_true h4] at h; cases h
        · rw [decide_eq_false h4] at h
          have : ¬ 8 < n3 := of_decide_eq_false h
          omega
      · rw [decide_eq_false h3] at h; cases h
def e1 (O : FOps) (x : Fl) : Bool := eqFrom (q1 O (datF x.r0) (datF x.r1)) 0 x.n0.toNat
def e2 (O : FOps) (x : Fl) : Bool := eqFrom (q2 O x.n0 (datF x.r2) (datG x.r2)) 0 x.n2.toNat
def e3 (O : FOps) (x : Fl) : Bool := eqFrom (q3 O x.n0 (datF x.r3) (datG x.r3)) 0 x.n3.toNat
def e2S (O : FOps) (x : Fl) : Bool := eqFrom (q2S O x.n0 (datF x.r2) (datG x.r2)) 0 x.n2.toNat
def e3S (O : FOps) (x : Fl) : Bool := eqFrom (q3S O x.n0 (datF x.r3) (datG x.r3)) 0 x.n3.toNat
def v4 (g a b c : Bool) : Bool := bif g then false else bif !a then false else bif !b then false else bif !c then false else true
/-- A flat is valid. -/
def vF (O : FOps) (x : Fl) : Bool := v4 (rgI x.n0 x.n1 x.n2 x.n3) (e1 O x) (e2 O x) (e3 O x)
def obV (g a b : Bool) (x : Fl) (p1 p2 p3 : Prop) : List Bool :=
  gdB g [flatR x.r3, flatR x.r2, flatR x.r1, flatR x.r0, pB p1] ++ gdB g (gdB (!a) [flatR x.r3, flatR x.r2, pB p2]) ++ gdB g (gdB (!a) (gdB (!b) [flatR x.r3, pB p3]))
set_option maxRecDepth 100000 in
theorem I_run (O : FOps) (x : Fl) (g : Fg) : roS (inl (cx0 O) Try.f28 ⟨fun _ => none, lpOf [(5, L1I O), (11, L2I O), (23, L3I O)]⟩) 5 [.a (x.sls g)] (x.rd g []) =
    some ⟨.c (.bool (.s (vF O x))), [], 180, obV (rgI x.n0 x.n1 x.n2 x.n3) (e1 O x) (e2 O x) x (P1I x.n0 x.n0 0 x.N3 x.N2 x.N1 x.N0 x.n0 x.n1 x.n2 x.n3 x.r0 x.r1 x.r2 x.r3) (P2I x.n0 x.n2 x.n2 0 x.n3 x.n2 x.n2 x.n3 x.r2 x.r3) (P3I x.n0 x.n3 x.n3 0 x.n3 x.r3)⟩ := by kernel_rfl
set_option maxRecDepth 100000 in
theorem S_run (O : FOps) (x : Fl) (g : Fg) : roS (inl (cx1 O) Try.f58 ⟨fun _ => none, lpOf [(5, L1S O), (10, L2S O), (15, L3S O)]⟩) 6 [.c (.ptr 5 0)] (x.rd g (x.box g)) =
    some ⟨.c (.bool (.s (v4 (rgS x.n0 x.n1 x.n2 x.n3) (e1 O x) (e2S O x) (e3S O x)))), [], 180, obV (rgS x.n0 x.n1 x.n2 x.n3) (e1 O x) (e2S O x) x (P1S x.n0 0 x.N3 x.N2 x.N1 x.N0 x.n0 x.n1 x.n2 x.n3 x.r0 x.r1 x.r2 x.r3) (P2S x.n0 0 x.n3 x.n2 x.n2 x.n3 x.r2 x.r3) (P3S x.n0 0 x.n3 x.n3 x.r3)⟩ := by kernel_rfl
theorem shF {ts : List KK} {row : Int → List SC} (h : Shape ts row) : flatR row = true := by rw [h]; exact rowK_flat _ _ _
theorem obV_ok {g a b : Bool} {x : Fl} {p1 p2 p3 : Prop} (h : x.ok = true) (h1 : g = false → p1) (h2 : g = false → p2) (h3 : g = false → p3) : AllT (obV g a b x p1 p2 p3) := by
  obtain ⟨_, _, _, _, _, _, _, _, _, _, s0, s1, s2, s3⟩ := pB_iff.1 h
  refine AllT.app (AllT.app (gdB_ok fun e => ?_) (gdB_ok fun e => gdB_ok fun _ => ?_)) (gdB_ok fun e => gdB_ok fun _ => gdB_ok fun _ => ?_)
  · exact AllT.cons (shF s3) (AllT.cons (shF s2) (AllT.cons (shF s1) (AllT.cons (shF s0) (AllT.one' (pB_iff.2 (h1 e))))))
  · exact AllT.cons (shF s3) (AllT.cons (shF s2) (AllT.one' (pB_iff.2 (h2 e))))
  · exact AllT.cons (shF s3) (AllT.one' (pB_iff.2 (h3 e)))
theorem e2S_eq {x : Fl} (h : x.ok = true) : e2S fops x = e2 fops x := by
  obtain ⟨_, _, _, _, b, c, _⟩ := pB_iff.1 h
  exact eqFrom_congr _ _ fun j _ _ => q2S_eq b c _ _ _ j
theorem e3S_eq {x : Fl} (h : x.ok = true) : e3S fops x = e3 fops x := by
  obtain ⟨_, _, _, _, b, c, _⟩ := pB_iff.1 h
  exact eqFrom_congr _ _ fun j _ _ => q3S_eq b c _ _ _ j
def vV (O : FOps) (x : Fl) : List SV → Option (SV × List Bool)
  | [] => some (.c (.bool (.s (vF O x))), [])
  | _ => none
def vIC (O : FOps) : CS := orS (canS (flH flV 180 (vV O))) (inl (cx0 O) Try.f28 noH)
def vSC (O : FOps) : CS := orS (canS (flH flP 180 (vV O))) (inl (cx1 O) Try.f58 noH)
theorem flH_some {D : Nat → List SV → List (Nat × Seg) → Option (Fl × List SV)} {nx : Nat} {V : Fl → List SV → Option (SV × List Bool)} {b : Nat} {args : List SV} {rd : List (Nat × Seg)} {e : CEff} (h : flH D nx V b args rd = some e) :
    ∃ x rest v ob, D b args rd = some (x, rest) ∧ V x rest = some (v, ob) ∧ e = ⟨v, [], nx, x.ok :: ob⟩ := by
  unfold flH at h
  split at h <;> try (cases h; done)
  rename_i x rest hd
  split at h <;> cases h
  rename_i v ob hv
  exact ⟨x, rest, v, ob, hd, hv, rfl⟩
set_option maxRecDepth 100000 in
theorem cVI : CallOK Try.prog 28 (vIC fops) :=
  (CallOK.hand (H := flH flV 180 (vV fops)) cI0.ro fun b args rd e h hob => by
    obtain ⟨x, rest, v, ob, h1, h2, rfl⟩ := flH_some h
    obtain ⟨g, rfl, rfl, rfl⟩ := flV_some h1
    unfold vV at h2
    split at h2 <;> cases h2
    have hx := hob.head
    have hO := pB_iff.1 hx
    obtain ⟨u0, u1, u2, u3, b0, c0, b2, c2, b3, c3, s0, s1, s2, s3⟩ := hO
    exact ⟨_, I_run fops x g, obV_ok hx (fun e => ⟨rfl, rfl, rfl, (rgI_false e).2.2.1, pB_iff.1 hx⟩) (fun _ => ⟨rfl, rfl, rfl, rfl, rfl, b2, c2, s2, s3⟩) (fun _ => ⟨rfl, rfl, rfl, b3, c3, s3⟩)⟩).can.or
    (inlN_of (l := L0) okL0 mixed 8 Try.func28 (by kernel_rfl) (fun _ => none))
set_option maxRecDepth 100000 in
theorem cVS : CallOK Try.prog 58 (vSC fops) :=
  (CallOK.hand (H := flH flP 180 (vV fops)) cS0.ro fun b args rd e h hob => by
    obtain ⟨x, rest, v, ob, h1, h2, rfl⟩ := flH_some h
    obtain ⟨g, rfl, rfl, rfl⟩ := flP_some h1
    unfold vV at h2
    split at h2 <;> cases h2
    have hx := hob.head
    have hO := pB_iff.1 hx
    obtain ⟨u0, u1, u2, u3, b0, c0, b2, c2, b3, c3, s0, s1, s2, s3⟩ := hO
    have r := S_run fops x g
    have r' : v4 (rgS x.n0 x.n1 x.n2 x.n3) (e1 fops x) (e2S fops x) (e3S fops x) = vF fops x := by
      unfold vF
      rw [rg_eq, e2S_eq hx, e3S_eq hx]
    rw [r'] at r
    exact ⟨_, r, obV_ok hx (fun e => ⟨rfl, rfl, (rgI_false (by rw [← rg_eq]; exact e)).2.2.1, pB_iff.1 hx⟩) (fun _ => ⟨rfl, rfl, rfl, b2, c2, s2, s3⟩) (fun _ => ⟨rfl, rfl, b3, c3, s3⟩)⟩).can.or
    (inlN_of (l := L1 fops) okL1 mixed 8 Try.func58 (by kernel_rfl) (fun _ => none))
end
end Go.Proofs.Ytopliajfonpbcaa.Fla
