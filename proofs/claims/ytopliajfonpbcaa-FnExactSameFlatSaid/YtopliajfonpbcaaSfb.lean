/- Whether two flats are the same, with any numbers of walls and panes. Nothing is assumed. -/
import Derived.Test.YtopliajfonpbcaaSfa
namespace Go.Proofs.Ytopliajfonpbcaa.Sfl
open Go Fla
noncomputable section
noncomputable def LM (O : FOps) : List (Nat × CS) := (54, SaIS O) :: (84, SaSS O) :: LN
set_option maxRecDepth 100000 in
theorem okLM : AllOK Try.prog (LM fops) := ⟨SaIS_ok, SaSS_ok, okLN⟩
noncomputable def cxM (O : FOps) : Cx := ⟨Try.prog, O, orcN Try.prog O (LM O) 8⟩
/-- Two walls are the same. -/
def row4 (F H : Nat → Int → Nat) (k : Int) : Bool := bif !Nat.beq (F 4 k) (H 4 k) then false else bif !Nat.beq (F 5 k) (H 5 k) then false else bif !Nat.beq (F 6 k) (H 6 k) then false else bif !Nat.beq (F 7 k) (H 7 k) then false else true
def dif4 (F H : Nat → Int → Nat) (G I : Nat → Int → Int) (k : Int) : Bool := bif !decide (G 0 k = I 0 k) then true else bif !decide (G 1 k = I 1 k) then true else bif !Nat.beq (F 2 k) (H 2 k) then true else !Nat.beq (F 3 k) (H 3 k)
def dW (F H : Nat → Int → Nat) (G I : Nat → Int → Int) (k : Int) : Bool := (bif !decide (G 0 k = I 0 k) then true else bif !decide (G 1 k = I 1 k) then true else bif !Nat.beq (F 2 k) (H 2 k) then true else bif !Nat.beq (F 3 k) (H 3 k) then true else !row4 F H k)
def sW (F H : Nat → Int → Nat) (G I : Nat → Int → Int) (k : Int) : Bool := !dW F H G I k
def sP (F H : Nat → Int → Nat) (G I : Nat → Int → Int) (k : Int) : Bool := !dif4 F H G I k
def bx1 : List KC := [.any, .any, .sl 6 0 8 false, .sl 5 0 4 false]
def bx2 : List KC := [.any, .any, .sl 2 0 8 false, .sl 1 0 4 false]
def bx3 : List KC := [.any, .any, .any, .sl 5 0 4 false]
def bx4 : List KC := [.any, .any, .any, .sl 1 0 4 false]
def sg1 : List (Nat × KS) := [(1, ⟨false, false, .rows 4⟩), (2, ⟨false, false, .rows 8⟩), (5, ⟨false, false, .rows 4⟩), (6, ⟨false, false, .rows 8⟩), (9, ⟨true, true, .cells bx1⟩), (10, ⟨true, true, .cells bx2⟩)]
def sg2 : List (Nat × KS) := [(1, ⟨false, false, .rows 4⟩), (5, ⟨false, false, .rows 4⟩), (9, ⟨true, true, .cells bx3⟩), (10, ⟨true, true, .cells bx4⟩)]
def da2 (x y : FD) : List LD := [.i y.n3, .r y.R3, .i x.n3, .r x.R3, .i x.n3, .i y.n3]
def da1 (x y : FD) : List LD := [.i y.n3, .r y.R3, .i y.n2, .r y.R2, .i x.n3, .r x.R3, .i x.n2, .r x.R2, .i x.n2, .i x.n3, .i y.n2, .i y.n3]
def hdI (n m k : Int) : List Bool := [decide (k < n), bd n k, bd n k, bd m k, bd m k]
def bb (n m k : Int) : List Bool := [bd n k, bd m k]
theorem bb_ok {n m k : Int} (hk : 0 ≤ k) (h1 : k < n) (h2 : k < m) : AllT (bb n m k) := AllT.cons (bd_ok hk h1) (AllT.one' (bd_ok hk h2))
def hdS (n m k : Int) : List Bool := [decide (k < n)] ++ bb n m k ++ bb n m k
theorem hdS_ok {n m k : Int} (hk : 0 ≤ k) (h1 : k < n) (h2 : k < m) : AllT (hdS n m k) := AllT.app (AllT.app (AllT.one' (by simpa using h1)) (bb_ok hk h1 h2)) (bb_ok hk h1 h2)
def ob3 (d0 d1 d2 : Bool) (l : List Bool) : List Bool := gdB d0 l ++ gdB d0 (gdB d1 l) ++ gdB d0 (gdB d1 (gdB d2 l))
theorem ob3_ok {d0 d1 d2 : Bool} {l : List Bool} (h : AllT l) : AllT (ob3 d0 d1 d2 l) := AllT.app (AllT.app (gdB_ok fun _ => h) (gdB_ok fun _ => gdB_ok fun _ => h)) (gdB_ok fun _ => gdB_ok fun _ => gdB_ok fun _ => h)
def obS3 (x y : FD) (k : Int) : List Bool := ob3 (!decide (x.G3 0 k = y.G3 0 k)) (!decide (x.G3 1 k = y.G3 1 k)) (!Nat.beq (x.F3 2 k) (y.F3 2 k)) (bb x.n3 y.n3 k)
theorem obS3_ok {x y : FD} {k : Int} (hk : 0 ≤ k) (h1 : k < x.n3) (h2 : k < y.n3) : AllT (obS3 x y k) := ob3_ok (bb_ok hk h1 h2)
def obS2 (x y : FD) (k : Int) : List Bool := ob3 (!decide (x.G2 0 k = y.G2 0 k)) (!decide (x.G2 1 k = y.G2 1 k)) (!Nat.beq (x.F2 2 k) (y.F2 2 k)) (bb x.n2 y.n2 k) ++ gdB (!decide (x.G2 0 k = y.G2 0 k)) (gdB (!decide (x.G2 1 k = y.G2 1 k)) (gdB (!Nat.beq (x.F2 2 k) (y.F2 2 k)) (gdB (!Nat.beq (x.F2 3 k) (y.F2 3 k)) (bb x.n2 y.n2 k))))
theorem obS2_ok {x y : FD} {k : Int} (hk : 0 ≤ k) (h1 : k < x.n2) (h2 : k < y.n2) : AllT (obS2 x y k) := AllT.app (ob3_ok (bb_ok hk h1 h2)) (gdB_ok fun _ => gdB_ok fun _ => gdB_ok fun _ => gdB_ok fun _ => bb_ok hk h1 h2)
theorem hdI_ok {n m k : Int} (hk : 0 ≤ k) (h1 : k < n) (h2 : k < m) : AllT (hdI n m k) := AllT.cons (by simpa using h1) (AllT.cons (bd_ok hk h1) (AllT.cons (bd_ok hk h1) (AllT.cons (bd_ok hk h2) (AllT.one' (bd_ok hk h2)))))
/-! ### impl.SameFlat -/
noncomputable def NI : Nat := Try.f25.ntmps
noncomputable def I1k : Sk := ⟨[(2, .c (.ptr 9 0)), (3, .c (.ptr 10 0)), (44, .c (.sl 6 0 8 false)), (45, .c (.int .i64)), (46, .c (.int .i64))], sg1, 125⟩
noncomputable def I1e : Sk := ⟨[(2, .c (.ptr 9 0)), (3, .c (.ptr 10 0))], sg2, 125⟩
noncomputable def I1D (x y : FD) (k : Int) : List LD := [.i x.n2, .i x.n2, .i k] ++ da1 x y
noncomputable def I1g (O : FOps) (u v : Bool) (s : Sk) (x y : FD) (k : Int) : Option (Option XK × List LD × List Bool) := goL (cxM O) NI ⟨hints [(47, u), (91, v)], fun _ => none⟩ (bodyOf Try.f25 4) 125 185 I1k [] s (I1D x y k)
set_option maxRecDepth 100000 in
theorem I1a (O : FOps) (x y : FD) (k : Int) : I1g O true false I1k x y k = some (none, I1D x y (IntKind.i64.wrap (k + 1)), hdI x.n2 y.n2 k ++ [] ++ [sW x.F2 y.F2 x.G2 y.G2 k] ++ [flatR y.R3, flatR y.R2, flatR x.R3, flatR x.R2]) := by kernel_rfl
set_option maxRecDepth 100000 in
theorem I1b (O : FOps) (x y : FD) (k : Int) : I1g O true true (skR 4 125) x y k = some (some .ret, [], hdI x.n2 y.n2 k ++ [] ++ [dW x.F2 y.F2 x.G2 y.G2 k]) := by kernel_rfl
set_option maxRecDepth 100000 in
theorem I1c (O : FOps) (x y : FD) (k : Int) : I1g O false true I1e x y k = some (some (.exit 0), da2 x y, [!decide (k < x.n2)] ++ [flatR y.R3, flatR x.R3]) := by kernel_rfl
theorem I1l (x y : FD) (hn : x.n2 ≤ 1048576) (he : y.n2 = x.n2) : ∀ (m : Nat) (k : Int), 0 ≤ k → k + m = x.n2 →
    (eqFrom (fun k => sW x.F2 y.F2 x.G2 y.G2 k) k m = true → Loops (cxM fops) NI (fun _ => none) (bodyOf Try.f25 4) 125 185 I1k (I1D x y k) (.exit 0) I1e (da2 x y)) ∧
    (eqFrom (fun k => sW x.F2 y.F2 x.G2 y.G2 k) k m = false → Loops (cxM fops) NI (fun _ => none) (bodyOf Try.f25 4) 125 185 I1k (I1D x y k) .ret (skR 4 125) []) := by
  refine scan_loops (D := I1D x y) (n := x.n2) (fun k hk hlt hq => ?_) (fun k hk hlt hq => ?_) ?_
  · have r := I1a fops x y k
    rw [wrap_succ hk (by omega)] at r
    have hq' : sW x.F2 y.F2 x.G2 y.G2 k = true := hq
    exact .mk _ (ρ := []) r (AllT.app (AllT.app (AllT.app (hdI_ok hk hlt (by rw [he]; exact hlt)) (AllT.nil)) (AllT.one' hq')) (AllT.cons y.f3 (AllT.cons y.f2 (AllT.cons x.f3 (AllT.one' x.f2)))))
  · have hq' : sW x.F2 y.F2 x.G2 y.G2 k = false := hq
    exact .mk _ (ρ := []) (I1b fops x y k) (AllT.app (AllT.app (hdI_ok hk hlt (by rw [he]; exact hlt)) (AllT.nil)) (AllT.one' (nb hq')))
  · exact .mk _ (ρ := []) (I1c fops x y x.n2) (AllT.app (AllT.one' (by simp)) (AllT.cons y.f3 (AllT.one' x.f3)))
def I1P (l1 l2 k M3 M2 N3 N2 n2 n3 m2 m3 : Int) (a2 a3 b2 b3 : Int → List SC) : Prop := l1 = n2 ∧ l2 = n2 ∧ k = 0 ∧ M3 = m3 ∧ M2 = m2 ∧ N3 = n3 ∧ N2 = n2 ∧ m2 = n2 ∧ 0 ≤ n2 ∧ n2 ≤ 1048576 ∧ Shape SlWall.ts a2 ∧ Shape SlPane.ts a3 ∧ Shape SlWall.ts b2 ∧ Shape SlPane.ts b3
noncomputable def I1F : List LD → Option (XO × List Bool)
  | [.i l1, .i l2, .i k, .i M3, .r b3, .i M2, .r b2, .i N3, .r a3, .i N2, .r a2, .i n2, .i n3, .i m2, .i m3] => some ([(.s (!eqFrom (fun k => sW (datF a2) (datF b2) (datG a2) (datG b2) k) 0 n2.toNat), .ret, (skR 4 125), []), (.t, .exit 0, I1e, [.i M3, .r b3, .i N3, .r a3, .i n3, .i m3])], [pB (I1P l1 l2 k M3 M2 N3 N2 n2 n3 m2 m3 a2 a3 b2 b3)])
  | _ => none
noncomputable def I1L (O : FOps) : List Ly → Top → Option Outs := orIter (cxM O) NI (bodyOf Try.f25 4) (loopL NI 125 185 I1k [] I1F)
set_option maxRecDepth 100000 in
theorem I1o : CodeOK Try.prog NI (.loop (bodyOf Try.f25 4)) (I1L fops) := by
  refine orIter_ok (l := (LM fops)) okLM mixed 8 (loopL_ok (cx := cxM fops) (lp := fun _ => none) (fun ts => body_ok (l := (LM fops)) okLM mixed 8 _ ts) fun p r hr hob => ?_)
  unfold I1F at hr
  split at hr <;> cases hr
  rename_i l1 l2 k M3 b3 M2 b2 N3 a3 N2 a2 n2 n3 m2 m3
  obtain ⟨e0, e1, e2, e3, e4, e5, e6, e7, h0, hm, s2, s3, s4, s5⟩ := pB_iff.1 hob.head
  rw [e0, e1, e2, e3, e4, e5, e6, e7]
  obtain ⟨h1, h2⟩ := I1l ⟨fun _ _ => 0, fun _ _ => 0, datF a2, datF a3, fun _ _ => 0, fun _ _ => 0, datG a2, datG a3, 0, 0, n2, n3⟩ ⟨fun _ _ => 0, fun _ _ => 0, datF b2, datF b3, fun _ _ => 0, fun _ _ => 0, datG b2, datG b3, 0, 0, n2, m3⟩ hm rfl (n2).toNat 0 (Int.le_refl _) (by show (0 : Int) + ((n2).toNat : Nat) = _; show (0 : Int) + ((n2).toNat : Nat) = n2; omega)
  unfold I1D at h1 h2
  unfold da2 at h1
  unfold da1 FD.R2 FD.R3 at h1 h2
  dsimp only at h1 h2
  rw [← (show a2 = SlWall.Row (datF a2) (datG a2) from s2), ← (show a3 = SlPane.Row (datF a3) (datG a3) from s3), ← (show b2 = SlWall.Row (datF b2) (datG b2) from s4), ← (show b3 = SlPane.Row (datF b3) (datG b3) from s5)] at h1 h2
  cases hq : eqFrom (fun k => sW (datF a2) (datF b2) (datG a2) (datG b2) k) 0 (n2).toNat with
  | true => exact ⟨_, _, _, by simp [pickX, SB.val], h1 hq⟩
  | false => exact ⟨_, _, _, by simp [pickX, SB.val], h2 hq⟩
noncomputable def I2k : Sk := ⟨[(3, .c (.ptr 10 0)), (94, .c (.sl 5 0 4 false)), (95, .c (.int .i64)), (96, .c (.int .i64))], sg2, 185⟩
noncomputable def I2e : Sk := ⟨[], [], 185⟩
noncomputable def I2D (x y : FD) (k : Int) : List LD := [.i x.n3, .i x.n3, .i k] ++ da2 x y
noncomputable def I2g (O : FOps) (u v : Bool) (s : Sk) (x y : FD) (k : Int) : Option (Option XK × List LD × List Bool) := goL (cxM O) NI ⟨hints [(97, u), (133, v)], fun _ => none⟩ (bodyOf Try.f25 11) 185 245 I2k [] s (I2D x y k)
set_option maxRecDepth 100000 in
theorem I2a (O : FOps) (x y : FD) (k : Int) : I2g O true false I2k x y k = some (none, I2D x y (IntKind.i64.wrap (k + 1)), hdI x.n3 y.n3 k ++ [] ++ [sP x.F3 y.F3 x.G3 y.G3 k] ++ [flatR y.R3, flatR x.R3]) := by kernel_rfl
set_option maxRecDepth 100000 in
theorem I2b (O : FOps) (x y : FD) (k : Int) : I2g O true true (skR 4 185) x y k = some (some .ret, [], hdI x.n3 y.n3 k ++ [] ++ [dif4 x.F3 y.F3 x.G3 y.G3 k]) := by kernel_rfl
set_option maxRecDepth 100000 in
theorem I2c (O : FOps) (x y : FD) (k : Int) : I2g O false true I2e x y k = some (some (.exit 2), [], [!decide (k < x.n3)]) := by kernel_rfl
theorem I2l (x y : FD) (hn : x.n3 ≤ 1048576) (he : y.n3 = x.n3) : ∀ (m : Nat) (k : Int), 0 ≤ k → k + m = x.n3 →
    (eqFrom (fun k => sP x.F3 y.F3 x.G3 y.G3 k) k m = true → Loops (cxM fops) NI (fun _ => none) (bodyOf Try.f25 11) 185 245 I2k (I2D x y k) (.exit 2) I2e ([])) ∧
    (eqFrom (fun k => sP x.F3 y.F3 x.G3 y.G3 k) k m = false → Loops (cxM fops) NI (fun _ => none) (bodyOf Try.f25 11) 185 245 I2k (I2D x y k) .ret (skR 4 185) []) := by
  refine scan_loops (D := I2D x y) (n := x.n3) (fun k hk hlt hq => ?_) (fun k hk hlt hq => ?_) ?_
  · have r := I2a fops x y k
    rw [wrap_succ hk (by omega)] at r
    have hq' : sP x.F3 y.F3 x.G3 y.G3 k = true := hq
    exact .mk _ (ρ := []) r (AllT.app (AllT.app (AllT.app (hdI_ok hk hlt (by rw [he]; exact hlt)) (AllT.nil)) (AllT.one' hq')) (AllT.cons y.f3 (AllT.one' x.f3)))
  · have hq' : sP x.F3 y.F3 x.G3 y.G3 k = false := hq
    exact .mk _ (ρ := []) (I2b fops x y k) (AllT.app (AllT.app (hdI_ok hk hlt (by rw [he]; exact hlt)) (AllT.nil)) (AllT.one' (nb hq')))
  · exact .mk _ (ρ := []) (I2c fops x y x.n3) (AllT.one' (by simp))
def I2P (l1 l2 k M3 N3 n3 m3 : Int) (a3 b3 : Int → List SC) : Prop := l1 = n3 ∧ l2 = n3 ∧ k = 0 ∧ M3 = m3 ∧ N3 = n3 ∧ m3 = n3 ∧ 0 ≤ n3 ∧ n3 ≤ 1048576 ∧ Shape SlPane.ts a3 ∧ Shape SlPane.ts b3
noncomputable def I2F : List LD → Option (XO × List Bool)
  | [.i l1, .i l2, .i k, .i M3, .r b3, .i N3, .r a3, .i n3, .i m3] => some ([(.s (!eqFrom (fun k => sP (datF a3) (datF b3) (datG a3) (datG b3) k) 0 n3.toNat), .ret, (skR 4 185), []), (.t, .exit 2, I2e, [])], [pB (I2P l1 l2 k M3 N3 n3 m3 a3 b3)])
  | _ => none
noncomputable def I2L (O : FOps) : List Ly → Top → Option Outs := orIter (cxM O) NI (bodyOf Try.f25 11) (loopL NI 185 245 I2k [] I2F)
set_option maxRecDepth 100000 in
theorem I2o : CodeOK Try.prog NI (.loop (bodyOf Try.f25 11)) (I2L fops) := by
  refine orIter_ok (l := (LM fops)) okLM mixed 8 (loopL_ok (cx := cxM fops) (lp := fun _ => none) (fun ts => body_ok (l := (LM fops)) okLM mixed 8 _ ts) fun p r hr hob => ?_)
  unfold I2F at hr
  split at hr <;> cases hr
  rename_i l1 l2 k M3 b3 N3 a3 n3 m3
  obtain ⟨e0, e1, e2, e3, e4, e5, h0, hm, s3, s5⟩ := pB_iff.1 hob.head
  rw [e0, e1, e2, e3, e4, e5]
  obtain ⟨h1, h2⟩ := I2l ⟨fun _ _ => 0, fun _ _ => 0, fun _ _ => 0, datF a3, fun _ _ => 0, fun _ _ => 0, fun _ _ => 0, datG a3, 0, 0, 0, n3⟩ ⟨fun _ _ => 0, fun _ _ => 0, fun _ _ => 0, datF b3, fun _ _ => 0, fun _ _ => 0, fun _ _ => 0, datG b3, 0, 0, 0, n3⟩ hm rfl (n3).toNat 0 (Int.le_refl _) (by show (0 : Int) + ((n3).toNat : Nat) = _; show (0 : Int) + ((n3).toNat : Nat) = n3; omega)
  unfold I2D at h1 h2
  unfold da2 FD.R3 at h1 h2
  dsimp only at h1 h2
  rw [← (show a3 = SlPane.Row (datF a3) (datG a3) from s3), ← (show b3 = SlPane.Row (datF b3) (datG b3) from s5)] at h1 h2
  cases hq : eqFrom (fun k => sP (datF a3) (datF b3) (datG a3) (datG b3) k) 0 (n3).toNat with
  | true => exact ⟨_, _, _, by simp [pickX, SB.val], h1 hq⟩
  | false => exact ⟨_, _, _, by simp [pickX, SB.val], h2 hq⟩
/-! ### spec.l04Same -/
noncomputable def NS : Nat := Try.f51.ntmps
noncomputable def S1k : Sk := ⟨[(0, .c (.ptr 9 0)), (1, .c (.ptr 10 0)), (5, .c (.int .i64))], sg1, 125⟩
noncomputable def S1e : Sk := ⟨[(0, .c (.ptr 9 0)), (1, .c (.ptr 10 0))], sg2, 125⟩
noncomputable def S1D (x y : FD) (k : Int) : List LD := [.i k] ++ da1 x y
noncomputable def S1g (O : FOps) (u v : Bool) (s : Sk) (x y : FD) (k : Int) : Option (Option XK × List LD × List Bool) := goL (cxM O) NS ⟨hints [(65, u), (135, v)], fun _ => none⟩ (bodyOf Try.f51 4) 125 185 S1k [] s (S1D x y k)
set_option maxRecDepth 100000 in
theorem S1a (O : FOps) (x y : FD) (k : Int) : S1g O true false S1k x y k = some (none, S1D x y (IntKind.i64.wrap (k + 1)), hdS x.n2 y.n2 k ++ obS2 x y k ++ [sW x.F2 y.F2 x.G2 y.G2 k] ++ [flatR y.R3, flatR y.R2, flatR x.R3, flatR x.R2]) := by kernel_rfl
set_option maxRecDepth 100000 in
theorem S1b (O : FOps) (x y : FD) (k : Int) : S1g O true true (skR 4 125) x y k = some (some .ret, [], hdS x.n2 y.n2 k ++ obS2 x y k ++ [dW x.F2 y.F2 x.G2 y.G2 k]) := by kernel_rfl
set_option maxRecDepth 100000 in
theorem S1c (O : FOps) (x y : FD) (k : Int) : S1g O false true S1e x y k = some (some (.exit 0), da2 x y, [!decide (k < x.n2)] ++ [flatR y.R3, flatR x.R3]) := by kernel_rfl
theorem S1l (x y : FD) (hn : x.n2 ≤ 1048576) (he : y.n2 = x.n2) : ∀ (m : Nat) (k : Int), 0 ≤ k → k + m = x.n2 →
    (eqFrom (fun k => sW x.F2 y.F2 x.G2 y.G2 k) k m = true → Loops (cxM fops) NS (fun _ => none) (bodyOf Try.f51 4) 125 185 S1k (S1D x y k) (.exit 0) S1e (da2 x y)) ∧
    (eqFrom (fun k => sW x.F2 y.F2 x.G2 y.G2 k) k m = false → Loops (cxM fops) NS (fun _ => none) (bodyOf Try.f51 4) 125 185 S1k (S1D x y k) .ret (skR 4 125) []) := by
  refine scan_loops (D := S1D x y) (n := x.n2) (fun k hk hlt hq => ?_) (fun k hk hlt hq => ?_) ?_
  · have r := S1a fops x y k
    rw [wrap_succ hk (by omega)] at r
    have hq' : sW x.F2 y.F2 x.G2 y.G2 k = true := hq
    exact .mk _ (ρ := []) r (AllT.app (AllT.app (AllT.app (hdS_ok hk hlt (by rw [he]; exact hlt)) (obS2_ok hk hlt (by rw [he]; exact hlt))) (AllT.one' hq')) (AllT.cons y.f3 (AllT.cons y.f2 (AllT.cons x.f3 (AllT.one' x.f2)))))
  · have hq' : sW x.F2 y.F2 x.G2 y.G2 k = false := hq
    exact .mk _ (ρ := []) (S1b fops x y k) (AllT.app (AllT.app (hdS_ok hk hlt (by rw [he]; exact hlt)) (obS2_ok hk hlt (by rw [he]; exact hlt))) (AllT.one' (nb hq')))
  · exact .mk _ (ρ := []) (S1c fops x y x.n2) (AllT.app (AllT.one' (by simp)) (AllT.cons y.f3 (AllT.one' x.f3)))
def S1P ( k M3 M2 N3 N2 n2 n3 m2 m3 : Int) (a2 a3 b2 b3 : Int → List SC) : Prop := k = 0 ∧ M3 = m3 ∧ M2 = m2 ∧ N3 = n3 ∧ N2 = n2 ∧ m2 = n2 ∧ 0 ≤ n2 ∧ n2 ≤ 1048576 ∧ Shape SlWall.ts a2 ∧ Shape SlPane.ts a3 ∧ Shape SlWall.ts b2 ∧ Shape SlPane.ts b3
noncomputable def S1F : List LD → Option (XO × List Bool)
  | [.i k, .i M3, .r b3, .i M2, .r b2, .i N3, .r a3, .i N2, .r a2, .i n2, .i n3, .i m2, .i m3] => some ([(.s (!eqFrom (fun k => sW (datF a2) (datF b2) (datG a2) (datG b2) k) 0 n2.toNat), .ret, (skR 4 125), []), (.t, .exit 0, S1e, [.i M3, .r b3, .i N3, .r a3, .i n3, .i m3])], [pB (S1P  k M3 M2 N3 N2 n2 n3 m2 m3 a2 a3 b2 b3)])
  | _ => none
noncomputable def S1L (O : FOps) : List Ly → Top → Option Outs := orIter (cxM O) NS (bodyOf Try.f51 4) (loopL NS 125 185 S1k [] S1F)
set_option maxRecDepth 100000 in
theorem S1o : CodeOK Try.prog NS (.loop (bodyOf Try.f51 4)) (S1L fops) := by
  refine orIter_ok (l := (LM fops)) okLM mixed 8 (loopL_ok (cx := cxM fops) (lp := fun _ => none) (fun ts => body_ok (l := (LM fops)) okLM mixed 8 _ ts) fun p r hr hob => ?_)
  unfold S1F at hr
  split at hr <;> cases hr
  rename_i k M3 b3 M2 b2 N3 a3 N2 a2 n2 n3 m2 m3
  obtain ⟨e0, e1, e2, e3, e4, e5, h0, hm, s2, s3, s4, s5⟩ := pB_iff.1 hob.head
  rw [e0, e1, e2, e3, e4, e5]
  obtain ⟨h1, h2⟩ := S1l ⟨fun _ _ => 0, fun _ _ => 0, datF a2, datF a3, fun _ _ => 0, fun _ _ => 0, datG a2, datG a3, 0, 0, n2, n3⟩ ⟨fun _ _ => 0, fun _ _ => 0, datF b2, datF b3, fun _ _ => 0, fun _ _ => 0, datG b2, datG b3, 0, 0, n2, m3⟩ hm rfl (n2).toNat 0 (Int.le_refl _) (by show (0 : Int) + ((n2).toNat : Nat) = _; show (0 : Int) + ((n2).toNat : Nat) = n2; omega)
  unfold S1D at h1 h2
  unfold da2 at h1
  unfold da1 FD.R2 FD.R3 at h1 h2
  dsimp only at h1 h2
  rw [← (show a2 = SlWall.Row (datF a2) (datG a2) from s2), ← (show a3 = SlPane.Row (datF a3) (datG a3) from s3), ← (show b2 = SlWall.Row (datF b2) (datG b2) from s4), ← (show b3 = SlPane.Row (datF b3) (datG b3) from s5)] at h1 h2
  cases hq : eqFrom (fun k => sW (datF a2) (datF b2) (datG a2) (datG b2) k) 0 (n2).toNat with
  | true => exact ⟨_, _, _, by simp [pickX, SB.val], h1 hq⟩
  | false => exact ⟨_, _, _, by simp [pickX, SB.val], h2 hq⟩
noncomputable def S2k : Sk := ⟨[(0, .c (.ptr 9 0)), (1, .c (.ptr 10 0)), (8, .c (.int .i64))], sg2, 185⟩
noncomputable def S2e : Sk := ⟨[], [], 185⟩
noncomputable def S2D (x y : FD) (k : Int) : List LD := [.i k] ++ da2 x y
noncomputable def S2g (O : FOps) (u v : Bool) (s : Sk) (x y : FD) (k : Int) : Option (Option XK × List LD × List Bool) := goL (cxM O) NS ⟨hints [(142, u), (200, v)], fun _ => none⟩ (bodyOf Try.f51 11) 185 245 S2k [] s (S2D x y k)
set_option maxRecDepth 100000 in
theorem S2a (O : FOps) (x y : FD) (k : Int) : S2g O true false S2k x y k = some (none, S2D x y (IntKind.i64.wrap (k + 1)), hdS x.n3 y.n3 k ++ obS3 x y k ++ [sP x.F3 y.F3 x.G3 y.G3 k] ++ [flatR y.R3, flatR x.R3]) := by kernel_rfl
set_option maxRecDepth 100000 in
theorem S2b (O : FOps) (x y : FD) (k : Int) : S2g O true true (skR 4 185) x y k = some (some .ret, [], hdS x.n3 y.n3 k ++ obS3 x y k ++ [dif4 x.F3 y.F3 x.G3 y.G3 k]) := by kernel_rfl
set_option maxRecDepth 100000 in
theorem S2c (O : FOps) (x y : FD) (k : Int) : S2g O false true S2e x y k = some (some (.exit 2), [], [!decide (k < x.n3)]) := by kernel_rfl
theorem S2l (x y : FD) (hn : x.n3 ≤ 1048576) (he : y.n3 = x.n3) : ∀ (m : Nat) (k : Int), 0 ≤ k → k + m = x.n3 →
    (eqFrom (fun k => sP x.F3 y.F3 x.G3 y.G3 k) k m = true → Loops (cxM fops) NS (fun _ => none) (bodyOf Try.f51 11) 185 245 S2k (S2D x y k) (.exit 2) S2e ([])) ∧
    (eqFrom (fun k => sP x.F3 y.F3 x.G3 y.G3 k) k m = false → Loops (cxM fops) NS (fun _ => none) (bodyOf Try.f51 11) 185 245 S2k (S2D x y k) .ret (skR 4 185) []) := by
  refine scan_loops (D := S2D x y) (n := x.n3) (fun k hk hlt hq => ?_) (fun k hk hlt hq => ?_) ?_
  · have r := S2a fops x y k
    rw [wrap_succ hk (by omega)] at r
    have hq' : sP x.F3 y.F3 x.G3 y.G3 k = true := hq
    exact .mk _ (ρ := []) r (AllT.app (AllT.app (AllT.app (hdS_ok hk hlt (by rw [he]; exact hlt)) (obS3_ok hk hlt (by rw [he]; exact hlt))) (AllT.one' hq')) (AllT.cons y.f3 (AllT.one' x.f3)))
  · have hq' : sP x.F3 y.F3 x.G3 y.G3 k = false := hq
    exact .mk _ (ρ := []) (S2b fops x y k) (AllT.app (AllT.app (hdS_ok hk hlt (by rw [he]; exact hlt)) (obS3_ok hk hlt (by rw [he]; exact hlt))) (AllT.one' (nb hq')))
  · exact .mk _ (ρ := []) (S2c fops x y x.n3) (AllT.one' (by simp))
def S2P ( k M3 N3 n3 m3 : Int) (a3 b3 : Int → List SC) : Prop := k = 0 ∧ M3 = m3 ∧ N3 = n3 ∧ m3 = n3 ∧ 0 ≤ n3 ∧ n3 ≤ 1048576 ∧ Shape SlPane.ts a3 ∧ Shape SlPane.ts b3
noncomputable def S2F : List LD → Option (XO × List Bool)
  | [.i k, .i M3, .r b3, .i N3, .r a3, .i n3, .i m3] => some ([(.s (!eqFrom (fun k => sP (datF a3) (datF b3) (datG a3) (datG b3) k) 0 n3.toNat), .ret, (skR 4 185), []), (.t, .exit 2, S2e, [])], [pB (S2P  k M3 N3 n3 m3 a3 b3)])
  | _ => none
noncomputable def S2L (O : FOps) : List Ly → Top → Option Outs := orIter (cxM O) NS (bodyOf Try.f51 11) (loopL NS 185 245 S2k [] S2F)
set_option maxRecDepth 100000 in
theorem S2o : CodeOK Try.prog NS (.loop (bodyOf Try.f51 11)) (S2L fops) := by
  refine orIter_ok (l := (LM fops)) okLM mixed 8 (loopL_ok (cx := cxM fops) (lp := fun _ => none) (fun ts => body_ok (l := (LM fops)) okLM mixed 8 _ ts) fun p r hr hob => ?_)
  unfold S2F at hr
  split at hr <;> cases hr
  rename_i k M3 b3 N3 a3 n3 m3
  obtain ⟨e0, e1, e2, e3, h0, hm, s3, s5⟩ := pB_iff.1 hob.head
  rw [e0, e1, e2, e3]
  obtain ⟨h1, h2⟩ := S2l ⟨fun _ _ => 0, fun _ _ => 0, fun _ _ => 0, datF a3, fun _ _ => 0, fun _ _ => 0, fun _ _ => 0, datG a3, 0, 0, 0, n3⟩ ⟨fun _ _ => 0, fun _ _ => 0, fun _ _ => 0, datF b3, fun _ _ => 0, fun _ _ => 0, fun _ _ => 0, datG b3, 0, 0, 0, n3⟩ hm rfl (n3).toNat 0 (Int.le_refl _) (by show (0 : Int) + ((n3).toNat : Nat) = _; show (0 : Int) + ((n3).toNat : Nat) = n3; omega)
  unfold S2D at h1 h2
  unfold da2 FD.R3 at h1 h2
  dsimp only at h1 h2
  rw [← (show a3 = SlPane.Row (datF a3) (datG a3) from s3), ← (show b3 = SlPane.Row (datF b3) (datG b3) from s5)] at h1 h2
  cases hq : eqFrom (fun k => sP (datF a3) (datF b3) (datG a3) (datG b3) k) 0 (n3).toNat with
  | true => exact ⟨_, _, _, by simp [pickX, SB.val], h1 hq⟩
  | false => exact ⟨_, _, _, by simp [pickX, SB.val], h2 hq⟩
end
end Go.Proofs.Ytopliajfonpbcaa.Sfl
