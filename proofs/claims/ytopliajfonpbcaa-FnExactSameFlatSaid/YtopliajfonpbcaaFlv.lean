/- Whether a flat is valid, with any numbers of rooms, walls and panes. Nothing is assumed. -/
import Derived.Test.YtopliajfonpbcaaFlb
namespace Go.Proofs.Ytopliajfonpbcaa.Fla
open Go
noncomputable section
noncomputable def t1 (O : FOps) (F0 F1 : Nat → Int → Nat) (k : Int) : Bool := bif !hot O (F0 0 k) then true else !sto O (F1 0 k)
noncomputable def q1 (O : FOps) (F0 F1 : Nat → Int → Nat) (k : Int) : Bool := !t1 O F0 F1 k
noncomputable def sd (n : Int) (G : Nat → Int → Int) (k : Int) : Bool := std n (G 0 k) (G 1 k)
noncomputable def sdS (n : Int) (G : Nat → Int → Int) (k : Int) : Bool := stdS n (G 0 k) (G 1 k)
noncomputable def bW (O : FOps) (n : Int) (F : Nat → Int → Nat) (G : Nat → Int → Int) (k : Int) : Bool := badW O (sd n G k) (F 2 k) (F 3 k)
noncomputable def q2 (O : FOps) (n : Int) (F : Nat → Int → Nat) (G : Nat → Int → Int) (k : Int) : Bool := wallI O (sd n G k) (F 2 k) (F 3 k) (F 4 k) (F 5 k) (F 6 k) (F 7 k)
noncomputable def q2S (O : FOps) (n : Int) (F : Nat → Int → Nat) (G : Nat → Int → Int) (k : Int) : Bool := wallS O (sdS n G k) (F 2 k) (F 3 k) (F 4 k) (F 5 k) (F 6 k) (F 7 k)
noncomputable def bP (O : FOps) (n : Int) (F : Nat → Int → Nat) (G : Nat → Int → Int) (k : Int) : Bool := badP O (sd n G k) (F 2 k) (F 3 k)
noncomputable def q3 (O : FOps) (n : Int) (F : Nat → Int → Nat) (G : Nat → Int → Int) (k : Int) : Bool := !bP O n F G k
noncomputable def q3S (O : FOps) (n : Int) (F : Nat → Int → Nat) (G : Nat → Int → Int) (k : Int) : Bool := paneS O (sdS n G k) (F 2 k) (F 3 k)
theorem q2S_eq {n : Int} (h0 : 0 ≤ n) (h1 : n ≤ 1048576) (O : FOps) (F : Nat → Int → Nat) (G : Nat → Int → Int) (k : Int) : q2S O n F G k = q2 O n F G k := by
  unfold q2S q2 sdS sd
  rw [stdS_eq h0 h1, wallS_eq]
theorem q3S_eq {n : Int} (h0 : 0 ≤ n) (h1 : n ≤ 1048576) (O : FOps) (F : Nat → Int → Nat) (G : Nat → Int → Int) (k : Int) : q3S O n F G k = q3 O n F G k := by
  unfold q3S q3 bP sdS sd
  rw [stdS_eq h0 h1, paneS_eq]
noncomputable def hd3 (n k : Int) : List Bool := [decide (k < n), bd n k, bd n k]
theorem hd3_ok {n k : Int} (h0 : 0 ≤ k) (h1 : k < n) : AllT (hd3 n k) := AllT.cons (by simpa using h1) (AllT.cons (bd_ok h0 h1) (AllT.one' (bd_ok h0 h1)))
noncomputable def x1 (O : FOps) (F0 : Nat → Int → Nat) (n k : Int) : List Bool := gdB (!hot O (F0 0 k)) [bd n k, bd n k]
theorem x1_ok (O : FOps) (F0 : Nat → Int → Nat) {n k : Int} (h0 : 0 ≤ k) (h1 : k < n) : AllT (x1 O F0 n k) := gdB_ok fun _ => AllT.cons (bd_ok h0 h1) (AllT.one' (bd_ok h0 h1))
theorem FD.f0 (x : FD) : flatR x.R0 = true := rowK_flat _ _ _
theorem FD.f1 (x : FD) : flatR x.R1 = true := rowK_flat _ _ _
theorem FD.f2 (x : FD) : flatR x.R2 = true := rowK_flat _ _ _
theorem FD.f3 (x : FD) : flatR x.R3 = true := rowK_flat _ _ _

/-! ### impl.ValidFlat -/
noncomputable def NI : Nat := Try.f28.ntmps
noncomputable def I1 : Sk := ⟨[(1, .c (.ptr 5 0)), (3, .c (.int .i64)), (39, .c (.int .i64)), (40, .c (.int .i64))], sgA true, 6⟩
noncomputable def I1E : Sk := ⟨[(1, .c (.ptr 5 0)), (3, .c (.int .i64))], sgB true, 6⟩
noncomputable def I2 : Sk := ⟨[(1, .c (.ptr 5 0)), (3, .c (.int .i64)), (61, .c (.sl 2 0 8 false)), (62, .c (.int .i64)), (63, .c (.int .i64))], sgB true, 60⟩
noncomputable def I2E : Sk := ⟨[(1, .c (.ptr 5 0)), (3, .c (.int .i64))], sgC true, 60⟩
noncomputable def I3 : Sk := ⟨[(3, .c (.int .i64)), (103, .c (.sl 1 0 4 false)), (104, .c (.int .i64)), (105, .c (.int .i64))], [(1, ⟨false, false, .rows 4⟩)], 120⟩
noncomputable def goI1 (O : FOps) (h : List (Nat × Bool)) (s : Sk) (x : FD) (k : Int) : Option (Option XK × List LD × List Bool) := goL (cx0 O) NI ⟨hints h, fun _ => none⟩ (bodyOf Try.f28 5) 6 60 I1 [] s (.i x.n0 :: .i x.n0 :: .i k :: daA x)
noncomputable def goI2 (O : FOps) (h : List (Nat × Bool)) (s : Sk) (x : FD) (k : Int) : Option (Option XK × List LD × List Bool) := goL (cx0 O) NI ⟨hints h, fun _ => none⟩ (bodyOf Try.f28 11) 60 120 I2 [] s (.i x.n0 :: .i x.n2 :: .i x.n2 :: .i k :: daB x)
noncomputable def goI3 (O : FOps) (h : List (Nat × Bool)) (s : Sk) (x : FD) (k : Int) : Option (Option XK × List LD × List Bool) := goL (cx0 O) NI ⟨hints h, fun _ => none⟩ (bodyOf Try.f28 23) 120 180 I3 [] s ([.i x.n0, .i x.n3, .i x.n3, .i k, .i x.n3, .r x.R3])
set_option maxRecDepth 100000 in
theorem r1aI (O : FOps) (x : FD) (k : Int) : goI1 O [(41, true), (58, false)] I1 x k = some (none, .i x.n0 :: .i x.n0 :: .i (IntKind.i64.wrap (k + 1)) :: daA x, hd3 x.n0 k ++ (x1 O x.F0 x.n1 k ++ [!t1 O x.F0 x.F1 k, flatR x.R3, flatR x.R2, flatR x.R1, flatR x.R0])) := by kernel_rfl
set_option maxRecDepth 100000 in
theorem r1bI (O : FOps) (x : FD) (k : Int) : goI1 O [(41, true), (58, true)] (skR 2 6) x k = some (some .ret, [], hd3 x.n0 k ++ (x1 O x.F0 x.n1 k ++ [t1 O x.F0 x.F1 k])) := by kernel_rfl
set_option maxRecDepth 100000 in
theorem r1eI (O : FOps) (x : FD) (k : Int) : goI1 O [(41, false)] I1E x k = some (some (.exit 0), .i x.n0 :: daB x, [!decide (k < x.n0), flatR x.R3, flatR x.R2]) := by kernel_rfl
set_option maxRecDepth 100000 in
theorem r2eI (O : FOps) (x : FD) (k : Int) : goI2 O [(64, false)] I2E x k = some (some (.exit 2), .i x.n0 :: daC x, [!decide (k < x.n2), flatR x.R3]) := by kernel_rfl
set_option maxRecDepth 100000 in
theorem r3eI (O : FOps) (x : FD) (k : Int) : goI3 O [(106, false)] (skN 120) x k = some (some (.exit 6), [], [!decide (k < x.n3)]) := by kernel_rfl

def goJI2 (O : FOps) (x : FD) (k : Int) (j : Nat) : Option (Option XK × List LD × List Bool) := goJ (cx0 O) NI ⟨hints [(64, true), (91, false)], fun _ => none⟩ (bodyOf Try.f28 11) j 60 120 I2 [] (skR 2 60) (.i x.n0 :: .i x.n2 :: .i x.n2 :: .i k :: daB x)
set_option maxRecDepth 100000 in
theorem r2aI (O : FOps) (x : FD) (k : Int) : goI2 O [(64, true), (91, false), (99, false)] I2 x k = some (none, .i x.n0 :: .i x.n2 :: .i x.n2 :: .i (IntKind.i64.wrap (k + 1)) :: daB x, hd3 x.n2 k ++ [!bW O x.n0 x.F2 x.G2 k, !!hot O (x.F2 4 k), !!hot O (x.F2 5 k), !!hot O (x.F2 6 k), !!hot O (x.F2 7 k), flatR x.R3, flatR x.R2]) := by kernel_rfl
set_option maxRecDepth 100000 in
theorem r2bI (O : FOps) (x : FD) (k : Int) : goI2 O [(64, true), (91, true)] (skR 2 60) x k = some (some .ret, [], hd3 x.n2 k ++ [bW O x.n0 x.F2 x.G2 k]) := by kernel_rfl

set_option maxRecDepth 100000 in
theorem r2j0I (O : FOps) (x : FD) (k : Int) : goJI2 O x k 0 = some (some .ret, [], hd3 x.n2 k ++ [!bW O x.n0 x.F2 x.G2 k, !hot O (x.F2 4 k)]) := by kernel_rfl

set_option maxRecDepth 100000 in
theorem r2j1I (O : FOps) (x : FD) (k : Int) : goJI2 O x k 1 = some (some .ret, [], hd3 x.n2 k ++ [!bW O x.n0 x.F2 x.G2 k, !!hot O (x.F2 4 k), !hot O (x.F2 5 k)]) := by kernel_rfl

set_option maxRecDepth 100000 in
theorem r2j2I (O : FOps) (x : FD) (k : Int) : goJI2 O x k 2 = some (some .ret, [], hd3 x.n2 k ++ [!bW O x.n0 x.F2 x.G2 k, !!hot O (x.F2 4 k), !!hot O (x.F2 5 k), !hot O (x.F2 6 k)]) := by kernel_rfl

set_option maxRecDepth 100000 in
theorem r2j3I (O : FOps) (x : FD) (k : Int) : goJI2 O x k 3 = some (some .ret, [], hd3 x.n2 k ++ [!bW O x.n0 x.F2 x.G2 k, !!hot O (x.F2 4 k), !!hot O (x.F2 5 k), !!hot O (x.F2 6 k), !hot O (x.F2 7 k)]) := by kernel_rfl

set_option maxRecDepth 100000 in
theorem r3aI (O : FOps) (x : FD) (k : Int) : goI3 O [(106, true), (127, false)] I3 x k = some (none, [.i x.n0, .i x.n3, .i x.n3, .i (IntKind.i64.wrap (k + 1)), .i x.n3, .r x.R3], hd3 x.n3 k ++ [!bP O x.n0 x.F3 x.G3 k, flatR x.R3]) := by kernel_rfl
set_option maxRecDepth 100000 in
theorem r3bI (O : FOps) (x : FD) (k : Int) : goI3 O [(106, true), (127, true)] (skR 2 120) x k = some (some .ret, [], hd3 x.n3 k ++ [bP O x.n0 x.F3 x.G3 k]) := by kernel_rfl

/-! ### spec.l04Ok -/
noncomputable def NS : Nat := Try.f58.ntmps
noncomputable def S1 : Sk := ⟨[(0, .c (.ptr 5 0)), (3, .c (.int .i64)), (4, .c (.int .i64))], sgA false, 6⟩
noncomputable def S1E : Sk := ⟨[(0, .c (.ptr 5 0)), (3, .c (.int .i64))], sgB false, 6⟩
noncomputable def S2 : Sk := ⟨[(0, .c (.ptr 5 0)), (3, .c (.int .i64)), (5, .c (.int .i64))], sgB false, 60⟩
noncomputable def S2E : Sk := ⟨[(0, .c (.ptr 5 0)), (3, .c (.int .i64))], sgC false, 60⟩
noncomputable def S3 : Sk := ⟨[(0, .c (.ptr 5 0)), (3, .c (.int .i64)), (6, .c (.int .i64))], sgC false, 120⟩
noncomputable def goS1 (O : FOps) (h : List (Nat × Bool)) (s : Sk) (x : FD) (k : Int) : Option (Option XK × List LD × List Bool) := goL (cx1 O) NS ⟨hints h, fun _ => none⟩ (bodyOf Try.f58 5) 6 60 S1 [] s (.i x.n0 :: .i k :: daA x)
noncomputable def goS2 (O : FOps) (h : List (Nat × Bool)) (s : Sk) (x : FD) (k : Int) : Option (Option XK × List LD × List Bool) := goL (cx1 O) NS ⟨hints h, fun _ => none⟩ (bodyOf Try.f58 10) 60 120 S2 [] s (.i x.n0 :: .i k :: daB x)
noncomputable def goS3 (O : FOps) (h : List (Nat × Bool)) (s : Sk) (x : FD) (k : Int) : Option (Option XK × List LD × List Bool) := goL (cx1 O) NS ⟨hints h, fun _ => none⟩ (bodyOf Try.f58 15) 120 180 S3 [] s (.i x.n0 :: .i k :: daC x)
set_option maxRecDepth 100000 in
theorem r1aS (O : FOps) (x : FD) (k : Int) : goS1 O [(46, true), (68, false)] S1 x k = some (none, .i x.n0 :: .i (IntKind.i64.wrap (k + 1)) :: daA x, hd3 x.n0 k ++ (x1 O x.F0 x.n1 k ++ [!t1 O x.F0 x.F1 k, flatR x.R3, flatR x.R2, flatR x.R1, flatR x.R0])) := by kernel_rfl
set_option maxRecDepth 100000 in
theorem r1bS (O : FOps) (x : FD) (k : Int) : goS1 O [(46, true), (68, true)] (skR 2 6) x k = some (some .ret, [], hd3 x.n0 k ++ (x1 O x.F0 x.n1 k ++ [t1 O x.F0 x.F1 k])) := by kernel_rfl
set_option maxRecDepth 100000 in
theorem r1eS (O : FOps) (x : FD) (k : Int) : goS1 O [(46, false)] S1E x k = some (some (.exit 0), .i x.n0 :: daB x, [!decide (k < x.n0), flatR x.R3, flatR x.R2]) := by kernel_rfl
set_option maxRecDepth 100000 in
theorem r2eS (O : FOps) (x : FD) (k : Int) : goS2 O [(75, false)] S2E x k = some (some (.exit 2), .i x.n0 :: daC x, [!decide (k < x.n2), flatR x.R3]) := by kernel_rfl
set_option maxRecDepth 100000 in
theorem r3eS (O : FOps) (x : FD) (k : Int) : goS3 O [(93, false)] (skN 120) x k = some (some (.exit 4), [], [!decide (k < x.n3)]) := by kernel_rfl

set_option maxRecDepth 100000 in
theorem r2aS (O : FOps) (x : FD) (k : Int) : goS2 O [(75, true), (86, false)] S2 x k = some (none, .i x.n0 :: .i (IntKind.i64.wrap (k + 1)) :: daB x, hd3 x.n2 k ++ [!!q2S O x.n0 x.F2 x.G2 k, flatR x.R3, flatR x.R2]) := by kernel_rfl
set_option maxRecDepth 100000 in
theorem r2bS (O : FOps) (x : FD) (k : Int) : goS2 O [(75, true), (86, true)] (skR 2 60) x k = some (some .ret, [], hd3 x.n2 k ++ [!q2S O x.n0 x.F2 x.G2 k]) := by kernel_rfl
set_option maxRecDepth 100000 in
theorem r3aS (O : FOps) (x : FD) (k : Int) : goS3 O [(93, true), (104, false)] S3 x k = some (none, .i x.n0 :: .i (IntKind.i64.wrap (k + 1)) :: daC x, hd3 x.n3 k ++ [!!q3S O x.n0 x.F3 x.G3 k, flatR x.R3]) := by kernel_rfl
set_option maxRecDepth 100000 in
theorem r3bS (O : FOps) (x : FD) (k : Int) : goS3 O [(93, true), (104, true)] (skR 2 120) x k = some (some .ret, [], hd3 x.n3 k ++ [!q3S O x.n0 x.F3 x.G3 k]) := by kernel_rfl

theorem nt {b : Bool} (h : b = false) : (!b) = true := by rw [h]; rfl
theorem nn {b : Bool} (h : b = true) : (!!b) = true := by rw [h]; rfl
theorem wallI_true {O : FOps} {st : Bool} {l s a b c d : Nat} (h : wallI O st l s a b c d = true) : badW O st l s = false ∧ hot O a = true ∧ hot O b = true ∧ hot O c = true ∧ hot O d = true := by
  revert h
  unfold wallI
  cases badW O st l s <;> cases hot O a <;> cases hot O b <;> cases hot O c <;> cases hot O d <;> simp
theorem wallI_false {O : FOps} {st : Bool} {l s a b c d : Nat} (h : wallI O st l s a b c d = false) (h0 : badW O st l s = false) : hot O a = false ∨ (hot O a = true ∧ hot O b = false) ∨ (hot O a = true ∧ hot O b = true ∧ hot O c = false) ∨ (hot O a = true ∧ hot O b = true ∧ hot O c = true ∧ hot O d = false) := by
  revert h
  unfold wallI
  rw [h0]
  cases hot O a <;> cases hot O b <;> cases hot O c <;> cases hot O d <;> simp
/-- The memory that a flat leads to is as its parts say. -/
def Okd (N3 N2 N1 N0 n0 n1 n2 n3 : Int) (r0 r1 r2 r3 : Int → List SC) : Prop :=
  N0 = n0 ∧ N1 = n1 ∧ N2 = n2 ∧ N3 = n3 ∧ 0 ≤ n0 ∧ n0 ≤ 1048576 ∧ 0 ≤ n2 ∧ n2 ≤ 1048576 ∧ 0 ≤ n3 ∧ n3 ≤ 1048576 ∧ Shape SlFloat32.ts r0 ∧ Shape SlFloat32.ts r1 ∧ Shape SlWall.ts r2 ∧ Shape SlPane.ts r3

/-! ### the loops of impl.ValidFlat -/
theorem lo1I (x : FD) (h1 : x.n1 = x.n0) (hn : x.n0 ≤ 1048576) : ∀ (m : Nat) (k : Int), 0 ≤ k → k + m = x.n0 →
    (eqFrom (q1 fops x.F0 x.F1) k m = true → Loops (cx0 fops) NI (fun _ => none) (bodyOf Try.f28 5) 6 60 I1 (.i x.n0 :: .i x.n0 :: .i k :: daA x) (.exit 0) I1E (.i x.n0 :: daB x)) ∧
    (eqFrom (q1 fops x.F0 x.F1) k m = false → Loops (cx0 fops) NI (fun _ => none) (bodyOf Try.f28 5) 6 60 I1 (.i x.n0 :: .i x.n0 :: .i k :: daA x) .ret (skR 2 6) []) := by
  refine scan_loops (D := fun k => .i x.n0 :: .i x.n0 :: .i k :: daA x) (n := x.n0) (fun k hk hlt hq => ?_) (fun k hk hlt hq => ?_) ?_
  · have r := r1aI fops x k
    rw [wrap_succ hk (by omega)] at r
    have ht : t1 fops x.F0 x.F1 k = false := by unfold q1 at hq; simpa using hq
    exact .mk _ (ρ := []) r (AllT.app (hd3_ok hk hlt) (AllT.app (x1_ok fops x.F0 hk (by omega)) (AllT.cons (by rw [ht]; rfl) (AllT.cons x.f3 (AllT.cons x.f2 (AllT.cons x.f1 (AllT.one' x.f0)))))))
  · have ht : t1 fops x.F0 x.F1 k = true := by unfold q1 at hq; simpa using hq
    exact .mk _ (ρ := []) (r1bI fops x k) (AllT.app (hd3_ok hk hlt) (AllT.app (x1_ok fops x.F0 hk (by omega)) (AllT.one' ht)))
  · exact .mk _ (ρ := []) (r1eI fops x x.n0) (AllT.cons (by simp) (AllT.cons x.f3 (AllT.one' x.f2)))

theorem lo2I (x : FD) (hn : x.n2 ≤ 1048576) : ∀ (m : Nat) (k : Int), 0 ≤ k → k + m = x.n2 →
    (eqFrom (q2 fops x.n0 x.F2 x.G2) k m = true → Loops (cx0 fops) NI (fun _ => none) (bodyOf Try.f28 11) 60 120 I2 (.i x.n0 :: .i x.n2 :: .i x.n2 :: .i k :: daB x) (.exit 2) I2E (.i x.n0 :: daC x)) ∧
    (eqFrom (q2 fops x.n0 x.F2 x.G2) k m = false → Loops (cx0 fops) NI (fun _ => none) (bodyOf Try.f28 11) 60 120 I2 (.i x.n0 :: .i x.n2 :: .i x.n2 :: .i k :: daB x) .ret (skR 2 60) []) := by
  refine scan_loops (D := fun k => .i x.n0 :: .i x.n2 :: .i x.n2 :: .i k :: daB x) (n := x.n2) (fun k hk hlt hq => ?_) (fun k hk hlt hq => ?_) ?_
  · have r := r2aI fops x k
    rw [wrap_succ hk (by omega)] at r
    have hq' : wallI fops (sd x.n0 x.G2 k) (x.F2 2 k) (x.F2 3 k) (x.F2 4 k) (x.F2 5 k) (x.F2 6 k) (x.F2 7 k) = true := hq
    obtain ⟨w0, w1, w2, w3, w4⟩ := wallI_true hq'
    exact .mk _ (ρ := []) r (AllT.app (hd3_ok hk hlt) (AllT.cons (nt w0) (AllT.cons (nn w1) (AllT.cons (nn w2) (AllT.cons (nn w3) (AllT.cons (nn w4) (AllT.cons x.f3 (AllT.one' x.f2))))))))
  · have hq' : wallI fops (sd x.n0 x.G2 k) (x.F2 2 k) (x.F2 3 k) (x.F2 4 k) (x.F2 5 k) (x.F2 6 k) (x.F2 7 k) = false := hq
    cases w0 : bW fops x.n0 x.F2 x.G2 k with
    | true => exact .mk _ (ρ := []) (r2bI fops x k) (AllT.app (hd3_ok hk hlt) (AllT.one' w0))
    | false =>
      have w0' : badW fops (sd x.n0 x.G2 k) (x.F2 2 k) (x.F2 3 k) = false := w0
      rcases wallI_false hq' w0' with h | ⟨a, h⟩ | ⟨a, b, h⟩ | ⟨a, b, c, h⟩
      · exact .mkJ _ 0 (ρ := []) (r2j0I fops x k) (AllT.app (hd3_ok hk hlt) (AllT.cons (nt w0) (AllT.one' (nt h))))
      · exact .mkJ _ 1 (ρ := []) (r2j1I fops x k) (AllT.app (hd3_ok hk hlt) (AllT.cons (nt w0) (AllT.cons (nn a) (AllT.one' (nt h)))))
      · exact .mkJ _ 2 (ρ := []) (r2j2I fops x k) (AllT.app (hd3_ok hk hlt) (AllT.cons (nt w0) (AllT.cons (nn a) (AllT.cons (nn b) (AllT.one' (nt h))))))
      · exact .mkJ _ 3 (ρ := []) (r2j3I fops x k) (AllT.app (hd3_ok hk hlt) (AllT.cons (nt w0) (AllT.cons (nn a) (AllT.cons (nn b) (AllT.cons (nn c) (AllT.one' (nt h)))))))
  · exact .mk _ (ρ := []) (r2eI fops x x.n2) (AllT.cons (by simp) (AllT.one' x.f3))
theorem lo3I (x : FD) (hn : x.n3 ≤ 1048576) : ∀ (m : Nat) (k : Int), 0 ≤ k → k + m = x.n3 →
    (eqFrom (q3 fops x.n0 x.F3 x.G3) k m = true → Loops (cx0 fops) NI (fun _ => none) (bodyOf Try.f28 23) 120 180 I3 ([.i x.n0, .i x.n3, .i x.n3, .i k, .i x.n3, .r x.R3]) (.exit 6) (skN 120) []) ∧
    (eqFrom (q3 fops x.n0 x.F3 x.G3) k m = false → Loops (cx0 fops) NI (fun _ => none) (bodyOf Try.f28 23) 120 180 I3 ([.i x.n0, .i x.n3, .i x.n3, .i k, .i x.n3, .r x.R3]) .ret (skR 2 120) []) := by
  refine scan_loops (D := fun k => [.i x.n0, .i x.n3, .i x.n3, .i k, .i x.n3, .r x.R3]) (n := x.n3) (fun k hk hlt hq => ?_) (fun k hk hlt hq => ?_) ?_
  · have r := r3aI fops x k
    rw [wrap_succ hk (by omega)] at r
    have ht : bP fops x.n0 x.F3 x.G3 k = false := by unfold q3 at hq; simpa using hq
    exact .mk _ (ρ := []) r (AllT.app (hd3_ok hk hlt) (AllT.cons (nt ht) (AllT.one' x.f3)))
  · have ht : bP fops x.n0 x.F3 x.G3 k = true := by unfold q3 at hq; simpa using hq
    exact .mk _ (ρ := []) (r3bI fops x k) (AllT.app (hd3_ok hk hlt) (AllT.one' ht))
  · exact .mk _ (ρ := []) (r3eI fops x x.n3) (AllT.one' (by simp))

def P1I (a a2 k N3 N2 N1 N0 n0 n1 n2 n3 : Int) (r0 r1 r2 r3 : Int → List SC) : Prop := a2 = n0 ∧ a = n0 ∧ k = 0 ∧ n1 = n0 ∧ Okd N3 N2 N1 N0 n0 n1 n2 n3 r0 r1 r2 r3
noncomputable def F1I (O : FOps) : List LD → Option (XO × List Bool)
  | [.i a, .i a2, .i k, .i N3, .r r3, .i N2, .r r2, .i N1, .r r1, .i N0, .r r0, .i n0, .i n1, .i n2, .i n3] => some ([(.s (!eqFrom (q1 O (datF r0) (datF r1)) 0 n0.toNat), .ret, skR 2 6, []), (.t, .exit 0, I1E, [.i n0, .i n3, .r r3, .i n2, .r r2, .i n2, .i n3])], [pB (P1I a a2 k N3 N2 N1 N0 n0 n1 n2 n3 r0 r1 r2 r3)])
  | _ => none
def P2I (a l1 l2 k N3 N2 n2 n3 : Int) (r2 r3 : Int → List SC) : Prop := l1 = n2 ∧ l2 = n2 ∧ k = 0 ∧ N2 = n2 ∧ N3 = n3 ∧ 0 ≤ n2 ∧ n2 ≤ 1048576 ∧ Shape SlWall.ts r2 ∧ Shape SlPane.ts r3
noncomputable def F2I (O : FOps) : List LD → Option (XO × List Bool)
  | [.i a, .i l1, .i l2, .i k, .i N3, .r r3, .i N2, .r r2, .i n2, .i n3] => some ([(.s (!eqFrom (q2 O a (datF r2) (datG r2)) 0 n2.toNat), .ret, skR 2 60, []), (.t, .exit 2, I2E, [.i a, .i n3, .r r3, .i n3])], [pB (P2I a l1 l2 k N3 N2 n2 n3 r2 r3)])
  | _ => none
def P3I (a l1 l2 k N3 : Int) (r3 : Int → List SC) : Prop := l1 = N3 ∧ l2 = N3 ∧ k = 0 ∧ 0 ≤ N3 ∧ N3 ≤ 1048576 ∧ Shape SlPane.ts r3
noncomputable def F3I (O : FOps) : List LD → Option (XO × List Bool)
  | [.i a, .i l1, .i l2, .i k, .i N3, .r r3] => some ([(.s (!eqFrom (q3 O a (datF r3) (datG r3)) 0 N3.toNat), .ret, skR 2 120, []), (.t, .exit 6, skN 120, [])], [pB (P3I a l1 l2 k N3 r3)])
  | _ => none
noncomputable def L1I (O : FOps) : List Ly → Top → Option Outs := orIter (cx0 O) NI (bodyOf Try.f28 5) (loopL NI 6 60 I1 [] (F1I O))
noncomputable def L2I (O : FOps) : List Ly → Top → Option Outs := orIter (cx0 O) NI (bodyOf Try.f28 11) (loopL NI 60 120 I2 [] (F2I O))
noncomputable def L3I (O : FOps) : List Ly → Top → Option Outs := orIter (cx0 O) NI (bodyOf Try.f28 23) (loopL NI 120 180 I3 [] (F3I O))
set_option maxRecDepth 100000 in
theorem ok1I : CodeOK Try.prog NI (.loop (bodyOf Try.f28 5)) (L1I fops) := by
  refine orIter_ok (l := L0) okL0 mixed 8 (loopL_ok (cx := cx0 fops) (lp := fun _ => none) (fun ts => body_ok (l := L0) okL0 mixed 8 _ ts) fun p r hr hob => ?_)
  unfold F1I at hr
  split at hr <;> cases hr
  rename_i a a2 k N3 r3 N2 r2 N1 r1 N0 r0 n0 n1 n2 n3
  obtain ⟨e1, ea, ek, en, eN0, eN1, eN2, eN3, b0, c0, b2, c2, b3, c3, s0, s1, s2, s3⟩ := pB_iff.1 hob.head
  rw [e1, ea, ek, eN0, eN1, eN2, eN3, en]
  obtain ⟨h1, h2⟩ := lo1I ⟨datF r0, datF r1, datF r2, datF r3, datG r0, datG r1, datG r2, datG r3, n0, n0, n2, n3⟩ rfl c0 n0.toNat 0 (Int.le_refl _) (by show (0 : Int) + n0.toNat = n0; omega)
  have E : daA ⟨datF r0, datF r1, datF r2, datF r3, datG r0, datG r1, datG r2, datG r3, n0, n0, n2, n3⟩ = [.i n3, .r r3, .i n2, .r r2, .i n0, .r r1, .i n0, .r r0, .i n0, .i n0, .i n2, .i n3] := by
    unfold daA FD.R0 FD.R1 FD.R2 FD.R3
    rw [← (show r0 = SlFloat32.Row (datF r0) (datG r0) from s0), ← (show r1 = SlFloat32.Row (datF r1) (datG r1) from s1), ← (show r2 = SlWall.Row (datF r2) (datG r2) from s2), ← (show r3 = SlPane.Row (datF r3) (datG r3) from s3)]
  have E' : daB ⟨datF r0, datF r1, datF r2, datF r3, datG r0, datG r1, datG r2, datG r3, n0, n0, n2, n3⟩ = [.i n3, .r r3, .i n2, .r r2, .i n2, .i n3] := by
    unfold daB FD.R2 FD.R3
    rw [← (show r2 = SlWall.Row (datF r2) (datG r2) from s2), ← (show r3 = SlPane.Row (datF r3) (datG r3) from s3)]
  rw [E] at h1 h2
  rw [E'] at h1
  cases hq : eqFrom (q1 fops (datF r0) (datF r1)) 0 n0.toNat with
  | true => exact ⟨.exit 0, I1E, _, by simp [pickX, SB.val], h1 hq⟩
  | false => exact ⟨.ret, skR 2 6, [], by simp [pickX, SB.val], h2 hq⟩
set_option maxRecDepth 100000 in
theorem ok2I : CodeOK Try.prog NI (.loop (bodyOf Try.f28 11)) (L2I fops) := by
  refine orIter_ok (l := L0) okL0 mixed 8 (loopL_ok (cx := cx0 fops) (lp := fun _ => none) (fun ts => body_ok (l := L0) okL0 mixed 8 _ ts) fun p r hr hob => ?_)
  unfold F2I at hr
  split at hr <;> cases hr
  rename_i a l1 l2 k N3 r3 N2 r2 n2 n3
  obtain ⟨e1, e2, ek, eN2, eN3, b2, c2, s2, s3⟩ := pB_iff.1 hob.head
  rw [e1, e2, ek, eN2, eN3]
  obtain ⟨h1, h2⟩ := lo2I ⟨datF r2, datF r2, datF r2, datF r3, datG r2, datG r2, datG r2, datG r3, a, a, n2, n3⟩ c2 n2.toNat 0 (Int.le_refl _) (by show (0 : Int) + n2.toNat = n2; omega)
  have E : daB ⟨datF r2, datF r2, datF r2, datF r3, datG r2, datG r2, datG r2, datG r3, a, a, n2, n3⟩ = [.i n3, .r r3, .i n2, .r r2, .i n2, .i n3] := by
    unfold daB FD.R2 FD.R3
    rw [← (show r2 = SlWall.Row (datF r2) (datG r2) from s2), ← (show r3 = SlPane.Row (datF r3) (datG r3) from s3)]
  have E' : daC ⟨datF r2, datF r2, datF r2, datF r3, datG r2, datG r2, datG r2, datG r3, a, a, n2, n3⟩ = [.i n3, .r r3, .i n3] := by
    unfold daC FD.R3
    rw [← (show r3 = SlPane.Row (datF r3) (datG r3) from s3)]
  rw [E] at h1 h2
  rw [E'] at h1
  cases hq : eqFrom (q2 fops a (datF r2) (datG r2)) 0 n2.toNat with
  | true => exact ⟨.exit 2, I2E, _, by simp [pickX, SB.val], h1 hq⟩
  | false => exact ⟨.ret, skR 2 60, [], by simp [pickX, SB.val], h2 hq⟩
set_option maxRecDepth 100000 in
theorem ok3I : CodeOK Try.prog NI (.loop (bodyOf Try.f28 23)) (L3I fops) := by
  refine orIter_ok (l := L0) okL0 mixed 8 (loopL_ok (cx := cx0 fops) (lp := fun _ => none) (fun ts => body_ok (l := L0) okL0 mixed 8 _ ts) fun p r hr hob => ?_)
  unfold F3I at hr
  split at hr <;> cases hr
  rename_i a l1 l2 k N3 r3
  obtain ⟨e1, e2, ek, b3, c3, s3⟩ := pB_iff.1 hob.head
  rw [e1, e2, ek]
  obtain ⟨h1, h2⟩ := lo3I ⟨datF r3, datF r3, datF r3, datF r3, datG r3, datG r3, datG r3, datG r3, a, a, N3, N3⟩ c3 N3.toNat 0 (Int.le_refl _) (by show (0 : Int) + N3.toNat = N3; omega)
  have E : (⟨datF r3, datF r3, datF r3, datF r3, datG r3, datG r3, datG r3, datG r3, a, a, N3, N3⟩ : FD).R3 = r3 := by
    unfold FD.R3
    rw [← (show r3 = SlPane.Row (datF r3) (datG r3) from s3)]
  rw [E] at h1 h2
  skip
  cases hq : eqFrom (q3 fops a (datF r3) (datG r3)) 0 N3.toNat with
  | true => exact ⟨.exit 6, skN 120, [], by simp [pickX, SB.val], h1 hq⟩
  | false => exact ⟨.ret, skR 2 120, [], by simp [pickX, SB.val], h2 hq⟩
set_option maxRecDepth 100000 in
theorem cI0 : CallOK Try.prog 28 (inl (cx0 fops) Try.f28 ⟨fun _ => none, lpOf [(5, L1I fops), (11, L2I fops), (23, L3I fops)]⟩) := by
  have hb : Try.f28.body.isSome = true := by kernel_rfl
  obtain ⟨c, hc⟩ := Option.isSome_iff_exists.1 hb
  have h1 : (match Try.f28.body with | some c => onceB (loopsIn c) && ((match loopAt 5 (loopsIn c) with | some _ => true | none => false) && ((match loopAt 11 (loopsIn c) with | some _ => true | none => false) && (match loopAt 23 (loopsIn c) with | some _ => true | none => false))) | none => false) = true := by kernel_rfl
  rw [hc] at h1
  simp only [Bool.and_eq_true] at h1
  exact inlL_of (l := L0) (ls := [(5, L1I fops), (11, L2I fops), (23, L3I fops)]) okL0 mixed 8 Try.func28 (by kernel_rfl) (fun _ => none) hc h1.1 ⟨⟨_, bodyOf_at hc h1.2.1, ok1I⟩, ⟨_, bodyOf_at hc h1.2.2.1, ok2I⟩, ⟨_, bodyOf_at hc h1.2.2.2, ok3I⟩, trivial⟩
/-! ### the loops of spec.l04Ok -/
theorem lo1S (x : FD) (h1 : x.n1 = x.n0) (hn : x.n0 ≤ 1048576) : ∀ (m : Nat) (k : Int), 0 ≤ k → k + m = x.n0 →
    (eqFrom (q1 fops x.F0 x.F1) k m = true → Loops (cx1 fops) NS (fun _ => none) (bodyOf Try.f58 5) 6 60 S1 (.i x.n0 :: .i k :: daA x) (.exit 0) S1E (.i x.n0 :: daB x)) ∧
    (eqFrom (q1 fops x.F0 x.F1) k m = false → Loops (cx1 fops) NS (fun _ => none) (bodyOf Try.f58 5) 6 60 S1 (.i x.n0 :: .i k :: daA x) .ret (skR 2 6) []) := by
  refine scan_loops (D := fun k => .i x.n0 :: .i k :: daA x) (n := x.n0) (fun k hk hlt hq => ?_) (fun k hk hlt hq => ?_) ?_
  · have r := r1aS fops x k
    rw [wrap_succ hk (by omega)] at r
    have ht : t1 fops x.F0 x.F1 k = false := by unfold q1 at hq; simpa using hq
    exact .mk _ (ρ := []) r (AllT.app (hd3_ok hk hlt) (AllT.app (x1_ok fops x.F0 hk (by omega)) (AllT.cons (by rw [ht]; rfl) (AllT.cons x.f3 (AllT.cons x.f2 (AllT.cons x.f1 (AllT.one' x.f0)))))))
  · have ht : t1 fops x.F0 x.F1 k = true := by unfold q1 at hq; simpa using hq
    exact .mk _ (ρ := []) (r1bS fops x k) (AllT.app (hd3_ok hk hlt) (AllT.app (x1_ok fops x.F0 hk (by omega)) (AllT.one' ht)))
  · exact .mk _ (ρ := []) (r1eS fops x x.n0) (AllT.cons (by simp) (AllT.cons x.f3 (AllT.one' x.f2)))

theorem lo2S (x : FD) (hn : x.n2 ≤ 1048576) : ∀ (m : Nat) (k : Int), 0 ≤ k → k + m = x.n2 →
    (eqFrom (q2S fops x.n0 x.F2 x.G2) k m = true → Loops (cx1 fops) NS (fun _ => none) (bodyOf Try.f58 10) 60 120 S2 (.i x.n0 :: .i k :: daB x) (.exit 2) S2E (.i x.n0 :: daC x)) ∧
    (eqFrom (q2S fops x.n0 x.F2 x.G2) k m = false → Loops (cx1 fops) NS (fun _ => none) (bodyOf Try.f58 10) 60 120 S2 (.i x.n0 :: .i k :: daB x) .ret (skR 2 60) []) := by
  refine scan_loops (D := fun k => .i x.n0 :: .i k :: daB x) (n := x.n2) (fun k hk hlt hq => ?_) (fun k hk hlt hq => ?_) ?_
  · have r := r2aS fops x k
    rw [wrap_succ hk (by omega)] at r
    exact .mk _ (ρ := []) r (AllT.app (hd3_ok hk hlt) (AllT.cons (nn hq) (AllT.cons x.f3 (AllT.one' x.f2))))
  · exact .mk _ (ρ := []) (r2bS fops x k) (AllT.app (hd3_ok hk hlt) (AllT.one' (nt hq)))
  · exact .mk _ (ρ := []) (r2eS fops x x.n2) (AllT.cons (by simp) (AllT.one' x.f3))
theorem lo3S (x : FD) (hn : x.n3 ≤ 1048576) : ∀ (m : Nat) (k : Int), 0 ≤ k → k + m = x.n3 →
    (eqFrom (q3S fops x.n0 x.F3 x.G3) k m = true → Loops (cx1 fops) NS (fun _ => none) (bodyOf Try.f58 15) 120 180 S3 (.i x.n0 :: .i k :: daC x) (.exit 4) (skN 120) []) ∧
    (eqFrom (q3S fops x.n0 x.F3 x.G3) k m = false → Loops (cx1 fops) NS (fun _ => none) (bodyOf Try.f58 15) 120 180 S3 (.i x.n0 :: .i k :: daC x) .ret (skR 2 120) []) := by
  refine scan_loops (D := fun k => .i x.n0 :: .i k :: daC x) (n := x.n3) (fun k hk hlt hq => ?_) (fun k hk hlt hq => ?_) ?_
  · have r := r3aS fops x k
    rw [wrap_succ hk (by omega)] at r
    exact .mk _ (ρ := []) r (AllT.app (hd3_ok hk hlt) (AllT.cons (nn hq) (AllT.one' x.f3)))
  · exact .mk _ (ρ := []) (r3bS fops x k) (AllT.app (hd3_ok hk hlt) (AllT.one' (nt hq)))
  · exact .mk _ (ρ := []) (r3eS fops x x.n3) (AllT.one' (by simp))

def P1S (a k N3 N2 N1 N0 n0 n1 n2 n3 : Int) (r0 r1 r2 r3 : Int → List SC) : Prop := a = n0 ∧ k = 0 ∧ n1 = n0 ∧ Okd N3 N2 N1 N0 n0 n1 n2 n3 r0 r1 r2 r3
noncomputable def F1S (O : FOps) : List LD → Option (XO × List Bool)
  | [.i a, .i k, .i N3, .r r3, .i N2, .r r2, .i N1, .r r1, .i N0, .r r0, .i n0, .i n1, .i n2, .i n3] => some ([(.s (!eqFrom (q1 O (datF r0) (datF r1)) 0 n0.toNat), .ret, skR 2 6, []), (.t, .exit 0, S1E, [.i n0, .i n3, .r r3, .i n2, .r r2, .i n2, .i n3])], [pB (P1S a k N3 N2 N1 N0 n0 n1 n2 n3 r0 r1 r2 r3)])
  | _ => none
def P2S (a k N3 N2 n2 n3 : Int) (r2 r3 : Int → List SC) : Prop := k = 0 ∧ N2 = n2 ∧ N3 = n3 ∧ 0 ≤ n2 ∧ n2 ≤ 1048576 ∧ Shape SlWall.ts r2 ∧ Shape SlPane.ts r3
noncomputable def F2S (O : FOps) : List LD → Option (XO × List Bool)
  | [.i a, .i k, .i N3, .r r3, .i N2, .r r2, .i n2, .i n3] => some ([(.s (!eqFrom (q2S O a (datF r2) (datG r2)) 0 n2.toNat), .ret, skR 2 60, []), (.t, .exit 2, S2E, [.i a, .i n3, .r r3, .i n3])], [pB (P2S a k N3 N2 n2 n3 r2 r3)])
  | _ => none
def P3S (a k N3 n3 : Int) (r3 : Int → List SC) : Prop := n3 = N3 ∧ k = 0 ∧ 0 ≤ N3 ∧ N3 ≤ 1048576 ∧ Shape SlPane.ts r3
noncomputable def F3S (O : FOps) : List LD → Option (XO × List Bool)
  | [.i a, .i k, .i N3, .r r3, .i n3] => some ([(.s (!eqFrom (q3S O a (datF r3) (datG r3)) 0 N3.toNat), .ret, skR 2 120, []), (.t, .exit 4, skN 120, [])], [pB (P3S a k N3 n3 r3)])
  | _ => none
noncomputable def L1S (O : FOps) : List Ly → Top → Option Outs := orIter (cx1 O) NS (bodyOf Try.f58 5) (loopL NS 6 60 S1 [] (F1S O))
noncomputable def L2S (O : FOps) : List Ly → Top → Option Outs := orIter (cx1 O) NS (bodyOf Try.f58 10) (loopL NS 60 120 S2 [] (F2S O))
noncomputable def L3S (O : FOps) : List Ly → Top → Option Outs := orIter (cx1 O) NS (bodyOf Try.f58 15) (loopL NS 120 180 S3 [] (F3S O))
set_option maxRecDepth 100000 in
theorem ok1S : CodeOK Try.prog NS (.loop (bodyOf Try.f58 5)) (L1S fops) := by
  refine orIter_ok (l := (L1 fops)) okL1 mixed 8 (loopL_ok (cx := cx1 fops) (lp := fun _ => none) (fun ts => body_ok (l := (L1 fops)) okL1 mixed 8 _ ts) fun p r hr hob => ?_)
  unfold F1S at hr
  split at hr <;> cases hr
  rename_i a k N3 r3 N2 r2 N1 r1 N0 r0 n0 n1 n2 n3
  obtain ⟨ea, ek, en, eN0, eN1, eN2, eN3, b0, c0, b2, c2, b3, c3, s0, s1, s2, s3⟩ := pB_iff.1 hob.head
  rw [ea, ek, eN0, eN1, eN2, eN3, en]
  obtain ⟨h1, h2⟩ := lo1S ⟨datF r0, datF r1, datF r2, datF r3, datG r0, datG r1, datG r2, datG r3, n0, n0, n2, n3⟩ rfl c0 n0.toNat 0 (Int.le_refl _) (by show (0 : Int) + n0.toNat = n0; omega)
  have E : daA ⟨datF r0, datF r1, datF r2, datF r3, datG r0, datG r1, datG r2, datG r3, n0, n0, n2, n3⟩ = [.i n3, .r r3, .i n2, .r r2, .i n0, .r r1, .i n0, .r r0, .i n0, .i n0, .i n2, .i n3] := by
    unfold daA FD.R0 FD.R1 FD.R2 FD.R3
    rw [← (show r0 = SlFloat32.Row (datF r0) (datG r0) from s0), ← (show r1 = SlFloat32.Row (datF r1) (datG r1) from s1), ← (show r2 = SlWall.Row (datF r2) (datG r2) from s2), ← (show r3 = SlPane.Row (datF r3) (datG r3) from s3)]
  have E' : daB ⟨datF r0, datF r1, datF r2, datF r3, datG r0, datG r1, datG r2, datG r3, n0, n0, n2, n3⟩ = [.i n3, .r r3, .i n2, .r r2, .i n2, .i n3] := by
    unfold daB FD.R2 FD.R3
    rw [← (show r2 = SlWall.Row (datF r2) (datG r2) from s2), ← (show r3 = SlPane.Row (datF r3) (datG r3) from s3)]
  rw [E] at h1 h2
  rw [E'] at h1
  cases hq : eqFrom (q1 fops (datF r0) (datF r1)) 0 n0.toNat with
  | true => exact ⟨.exit 0, S1E, _, by simp [pickX, SB.val], h1 hq⟩
  | false => exact ⟨.ret, skR 2 6, [], by simp [pickX, SB.val], h2 hq⟩
set_option maxRecDepth 100000 in
theorem ok2S : CodeOK Try.prog NS (.loop (bodyOf Try.f58 10)) (L2S fops) := by
  refine orIter_ok (l := (L1 fops)) okL1 mixed 8 (loopL_ok (cx := cx1 fops) (lp := fun _ => none) (fun ts => body_ok (l := (L1 fops)) okL1 mixed 8 _ ts) fun p r hr hob => ?_)
  unfold F2S at hr
  split at hr <;> cases hr
  rename_i a k N3 r3 N2 r2 n2 n3
  obtain ⟨ek, eN2, eN3, b2, c2, s2, s3⟩ := pB_iff.1 hob.head
  rw [ek, eN2, eN3]
  obtain ⟨h1, h2⟩ := lo2S ⟨datF r2, datF r2, datF r2, datF r3, datG r2, datG r2, datG r2, datG r3, a, a, n2, n3⟩ c2 n2.toNat 0 (Int.le_refl _) (by show (0 : Int) + n2.toNat = n2; omega)
  have E : daB ⟨datF r2, datF r2, datF r2, datF r3, datG r2, datG r2, datG r2, datG r3, a, a, n2, n3⟩ = [.i n3, .r r3, .i n2, .r r2, .i n2, .i n3] := by
    unfold daB FD.R2 FD.R3
    rw [← (show r2 = SlWall.Row (datF r2) (datG r2) from s2), ← (show r3 = SlPane.Row (datF r3) (datG r3) from s3)]
  have E' : daC ⟨datF r2, datF r2, datF r2, datF r3, datG r2, datG r2, datG r2, datG r3, a, a, n2, n3⟩ = [.i n3, .r r3, .i n3] := by
    unfold daC FD.R3
    rw [← (show r3 = SlPane.Row (datF r3) (datG r3) from s3)]
  rw [E] at h1 h2
  rw [E'] at h1
  cases hq : eqFrom (q2S fops a (datF r2) (datG r2)) 0 n2.toNat with
  | true => exact ⟨.exit 2, S2E, _, by simp [pickX, SB.val], h1 hq⟩
  | false => exact ⟨.ret, skR 2 60, [], by simp [pickX, SB.val], h2 hq⟩
set_option maxRecDepth 100000 in
theorem ok3S : CodeOK Try.prog NS (.loop (bodyOf Try.f58 15)) (L3S fops) := by
  refine orIter_ok (l := (L1 fops)) okL1 mixed 8 (loopL_ok (cx := cx1 fops) (lp := fun _ => none) (fun ts => body_ok (l := (L1 fops)) okL1 mixed 8 _ ts) fun p r hr hob => ?_)
  unfold F3S at hr
  split at hr <;> cases hr
  rename_i a k N3 r3 n3
  obtain ⟨e1, ek, b3, c3, s3⟩ := pB_iff.1 hob.head
  rw [e1, ek]
  obtain ⟨h1, h2⟩ := lo3S ⟨datF r3, datF r3, datF r3, datF r3, datG r3, datG r3, datG r3, datG r3, a, a, N3, N3⟩ c3 N3.toNat 0 (Int.le_refl _) (by show (0 : Int) + N3.toNat = N3; omega)
  have E : (⟨datF r3, datF r3, datF r3, datF r3, datG r3, datG r3, datG r3, datG r3, a, a, N3, N3⟩ : FD).R3 = r3 := by
    unfold FD.R3
    rw [← (show r3 = SlPane.Row (datF r3) (datG r3) from s3)]
  unfold daC at h1 h2
  rw [E] at h1 h2
  cases hq : eqFrom (q3S fops a (datF r3) (datG r3)) 0 N3.toNat with
  | true => exact ⟨.exit 4, skN 120, [], by simp [pickX, SB.val], h1 hq⟩
  | false => exact ⟨.ret, skR 2 120, [], by simp [pickX, SB.val], h2 hq⟩
set_option maxRecDepth 100000 in
theorem cS0 : CallOK Try.prog 58 (inl (cx1 fops) Try.f58 ⟨fun _ => none, lpOf [(5, L1S fops), (10, L2S fops), (15, L3S fops)]⟩) := by
  have hb : Try.f58.body.isSome = true := by kernel_rfl
  obtain ⟨c, hc⟩ := Option.isSome_iff_exists.1 hb
  have h1 : (match Try.f58.body with | some c => onceB (loopsIn c) && ((match loopAt 5 (loopsIn c) with | some _ => true | none => false) && ((match loopAt 10 (loopsIn c) with | some _ => true | none => false) && (match loopAt 15 (loopsIn c) with | some _ => true | none => false))) | none => false) = true := by kernel_rfl
  rw [hc] at h1
  simp only [Bool.and_eq_true] at h1
  exact inlL_of (l := (L1 fops)) (ls := [(5, L1S fops), (10, L2S fops), (15, L3S fops)]) okL1 mixed 8 Try.func58 (by kernel_rfl) (fun _ => none) hc h1.1 ⟨⟨_, bodyOf_at hc h1.2.1, ok1S⟩, ⟨_, bodyOf_at hc h1.2.2.1, ok2S⟩, ⟨_, bodyOf_at hc h1.2.2.2, ok3S⟩, trivial⟩

end
end Go.Proofs.Ytopliajfonpbcaa.Fla
