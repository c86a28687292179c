/- How much heat goes into each room: the sums. Nothing is assumed. -/
import Derived.Test.YtopliajfonpbcaaFld
namespace Go.Proofs.Ytopliajfonpbcaa.Rfl0
open Go Fla
noncomputable section
def OR (s : Int → Nat) : Int → List SC := SlFloat32.Row (fun _ j => s j) (fun _ _ => 0)
theorem OR_flat (s : Int → Nat) : flatR (OR s) = true := rowK_flat _ _ _
def sgO (own : Bool) : List (Nat × KS) := (6, ⟨true, true, .rows 1⟩) :: sgA own
def up (s : Int → Nat) (i : Int) (v : Nat) (j : Int) : Nat := bif decide (j = i) then v else s j
/-- The sides of walls and of panes are rooms, or outside. -/
def Win (x : FD) : Prop := ∀ k, 0 ≤ k → k < x.n2 → 0 ≤ x.G2 0 k ∧ x.G2 0 k < x.n0 ∧ -1 ≤ x.G2 1 k ∧ x.G2 1 k < x.n0
def Pan (x : FD) : Prop := ∀ k, 0 ≤ k → k < x.n3 → 0 ≤ x.G3 0 k ∧ x.G3 0 k < x.n0 ∧ -1 ≤ x.G3 1 k ∧ x.G3 1 k < x.n0
def f1A (O : FOps) (x : FD) (t u : Nat) (k : Int) (s : Int → Nat) : Int → Nat := up s (x.G2 0 k) (O.bin .add .f32 (s (x.G2 0 k)) (O.bin .mul .f32 (O.bin .mul .f32 1073741824 (x.F2 2 k)) (O.bin .sub .f32 (x.F2 4 k) (x.F0 0 (x.G2 0 k)))))
def f1B (O : FOps) (x : FD) (t u : Nat) (k : Int) (s : Int → Nat) : Int → Nat := up (f1A O x t u k s) (x.G2 1 k) (O.bin .add .f32 (f1A O x t u k s (x.G2 1 k)) (O.bin .mul .f32 (O.bin .mul .f32 1073741824 (x.F2 2 k)) (O.bin .sub .f32 (x.F2 7 k) (x.F0 0 (x.G2 1 k)))))
def f1 (O : FOps) (x : FD) (t u : Nat) (k : Int) (s : Int → Nat) : Int → Nat := bif decide (x.G2 1 k = -1) then f1A O x t u k s else f1B O x t u k s
def hB (x : FD) (t : Nat) (k : Int) : Nat := bif decide (x.G3 1 k = -1) then t else x.F0 0 (x.G3 1 k)
def hBS (x : FD) (t : Nat) (k : Int) : Nat := bif decide (x.G3 1 k < 0) then t else x.F0 0 (x.G3 1 k)
def q1 (O : FOps) (x : FD) (b : Nat) (k : Int) (s : Int → Nat) : Int → Nat := up s (x.G3 0 k) (O.bin .add .f32 (s (x.G3 0 k)) (O.bin .mul .f32 (x.F3 2 k) (O.bin .sub .f32 b (x.F0 0 (x.G3 0 k)))))
def q2 (O : FOps) (x : FD) (u : Nat) (k : Int) (s : Int → Nat) : Int → Nat := up s (x.G3 0 k) (O.bin .add .f32 (s (x.G3 0 k)) (O.bin .mul .f32 (x.F3 3 k) u))
def q3 (O : FOps) (x : FD) (b : Nat) (k : Int) (s : Int → Nat) : Int → Nat := up s (x.G3 1 k) (O.bin .add .f32 (s (x.G3 1 k)) (O.bin .mul .f32 (x.F3 2 k) (O.bin .sub .f32 (x.F0 0 (x.G3 0 k)) b)))
def f2A (O : FOps) (x : FD) (t u : Nat) (k : Int) (s : Int → Nat) : Int → Nat := q2 O x u k (q1 O x (hB x t k) k s)
def f2B (O : FOps) (x : FD) (t u : Nat) (k : Int) (s : Int → Nat) : Int → Nat := q3 O x (hB x t k) k (q2 O x u k (q1 O x (hB x t k) k s))
def f2 (O : FOps) (x : FD) (t u : Nat) (k : Int) (s : Int → Nat) : Int → Nat := bif decide (x.G3 1 k = -1) then f2A O x t u k s else f2B O x t u k s
/-- The reference's. -/
def qS (O : FOps) (x : FD) (b u : Nat) (k : Int) (s : Int → Nat) : Int → Nat := up s (x.G3 0 k) (O.bin .add .f32 (O.bin .add .f32 (s (x.G3 0 k)) (O.bin .mul .f32 (x.F3 2 k) (O.bin .sub .f32 b (x.F0 0 (x.G3 0 k))))) (O.bin .mul .f32 (x.F3 3 k) u))
def g2A (O : FOps) (x : FD) (t u : Nat) (k : Int) (s : Int → Nat) : Int → Nat := qS O x (hBS x t k) u k s
def g2B (O : FOps) (x : FD) (t u : Nat) (k : Int) (s : Int → Nat) : Int → Nat := q3 O x (hBS x t k) k (qS O x (hBS x t k) u k s)
def g2 (O : FOps) (x : FD) (t u : Nat) (k : Int) (s : Int → Nat) : Int → Nat := bif decide (x.G3 1 k = -1) then g2A O x t u k s else g2B O x t u k s
/-! ### impl.roomFlows -/
noncomputable def NI : Nat := Try.f75.ntmps
def Ik1 : Sk := ⟨[(1, .c (.flt .f32)), (2, .c (.flt .f32)), (3, .c (.ptr 5 0)), (7, .c (.sl 6 0 1 true)), (20, .c (.sl 2 0 8 false)), (21, .c (.int .i64)), (22, .c (.int .i64))], sgO true, 7⟩
def Ie1 : Sk := ⟨[(1, .c (.flt .f32)), (2, .c (.flt .f32)), (3, .c (.ptr 5 0)), (7, .c (.sl 6 0 1 true))], sgO true, 7⟩
def ID1 (x : FD) (t u : Nat) (k : Int) (s : Int → Nat) : List LD := [.f t, .f u, .i x.n0, .i x.n2, .i x.n2, .i k] ++ ([.i x.n0, .r (OR s)] ++ daA x)
def IE1 (x : FD) (t u : Nat) (s : Int → Nat) : List LD := [.f t, .f u, .i x.n0] ++ ([.i x.n0, .r (OR s)] ++ daA x)
def Ig1 (O : FOps) (h : List (Nat × Bool)) (sk : Sk) (x : FD) (t u : Nat) (k : Int) (s : Int → Nat) : Option (Option XK × List LD × List Bool) := goL (cx0 O) NI ⟨hints h, fun _ => none⟩ (bodyOf Try.f75 3) 7 60 Ik1 [] sk (ID1 x t u k s)
def It1 (O : FOps) (x : FD) (t u : Nat) (k : Int) (s : Int → Nat) : List Bool := [decide (k < x.n2), bd x.n2 k, bd x.n2 k, bd x.n0 (x.G2 0 k), bd x.n0 (x.G2 0 k), bd x.n0 (x.G2 0 k), bd x.n0 (x.G2 0 k), bd x.n0 (x.G2 0 k), bd x.n0 (x.G2 0 k), !(decide (x.G2 1 k = -1)), bd x.n0 (x.G2 1 k), bd x.n0 (x.G2 1 k), bd x.n0 (x.G2 1 k), bd x.n0 (x.G2 1 k), bd x.n0 (x.G2 1 k), bd x.n0 (x.G2 1 k)]
def If1 (O : FOps) (x : FD) (t u : Nat) (k : Int) (s : Int → Nat) : List Bool := [decide (k < x.n2), bd x.n2 k, bd x.n2 k, bd x.n0 (x.G2 0 k), bd x.n0 (x.G2 0 k), bd x.n0 (x.G2 0 k), bd x.n0 (x.G2 0 k), bd x.n0 (x.G2 0 k), bd x.n0 (x.G2 0 k), !(!(decide (x.G2 1 k = -1)))]
theorem It1_ok {O : FOps} {x : FD} {t u : Nat} {k : Int} {s : Int → Nat} (hk : 0 ≤ k) (hlt : k < x.n2) (hA : 0 ≤ x.G2 0 k) (hA' : x.G2 0 k < x.n0) (hB : 0 ≤ x.G2 1 k) (hB' : x.G2 1 k < x.n0) (hb : ¬ x.G2 1 k = -1) : AllT (It1 O x t u k s) := by
  unfold It1
  repeat' (first | exact AllT.nil | refine AllT.cons ?_ ?_)
  all_goals first | exact bd_ok hk hlt | exact bd_ok hA hA' | exact bd_ok hB hB' | exact decide_eq_true hlt | (rw [bd_ok hB hB', Bool.or_true]) | (rw [decide_eq_false hb]; rfl) | exact decide_eq_true hB
theorem If1_ok {O : FOps} {x : FD} {t u : Nat} {k : Int} {s : Int → Nat} (hk : 0 ≤ k) (hlt : k < x.n2) (hA : 0 ≤ x.G2 0 k) (hA' : x.G2 0 k < x.n0) (hb : x.G2 1 k = -1) : AllT (If1 O x t u k s) := by
  unfold If1
  repeat' (first | exact AllT.nil | refine AllT.cons ?_ ?_)
  all_goals first | exact bd_ok hk hlt | exact bd_ok hA hA' | exact decide_eq_true hlt | (rw [decide_eq_true hb]; rfl) | (rw [decide_eq_true (by omega : x.G2 1 k < 0)]; rfl) | (rw [decide_eq_false (by omega : ¬ 0 ≤ x.G2 1 k)]; rfl)
set_option maxRecDepth 100000 in
theorem Ia1 (O : FOps) (x : FD) (t u : Nat) (k : Int) (s : Int → Nat) : Ig1 O [(23, true), (50, true)] Ik1 x t u k s = some (none, ID1 x t u (IntKind.i64.wrap (k + 1)) (f1B O x t u k s), It1 O x t u k s ++ flatR (OR (f1B O x t u k s)) :: fl4 x) := by kernel_rfl
set_option maxRecDepth 100000 in
theorem Ib1 (O : FOps) (x : FD) (t u : Nat) (k : Int) (s : Int → Nat) : Ig1 O [(23, true), (50, false)] Ik1 x t u k s = some (none, ID1 x t u (IntKind.i64.wrap (k + 1)) (f1A O x t u k s), If1 O x t u k s ++ flatR (OR (f1A O x t u k s)) :: fl4 x) := by kernel_rfl
set_option maxRecDepth 100000 in
theorem Ic1 (O : FOps) (x : FD) (t u : Nat) (k : Int) (s : Int → Nat) : Ig1 O [(23, false)] Ie1 x t u k s = some (some (.exit 0), IE1 x t u s, [!decide (k < x.n2)] ++ flatR (OR s) :: fl4 x) := by kernel_rfl
theorem Il1 (x : FD) (t u : Nat) (hn : x.n2 ≤ 1048576) (hp : Win x) : ∀ (m : Nat) (k : Int) (s : Int → Nat), 0 ≤ k → k + m = x.n2 →
    Loops (cx0 fops) NI (fun _ => none) (bodyOf Try.f75 3) 7 60 Ik1 (ID1 x t u k s) (.exit 0) Ie1 (IE1 x t u (foldFrom (f1 fops x t u) k m s)) := by
  refine fold_loops (D := ID1 x t u) (n := x.n2) (fun k s hk hlt => ?_) (fun s => ?_)
  · obtain ⟨hA, hA', hB, hB'⟩ := hp k hk hlt
    by_cases hb : x.G2 1 k = -1
    · have r := Ib1 fops x t u k s
      rw [wrap_succ hk (by omega)] at r
      have e : f1 fops x t u k s = f1A fops x t u k s := by unfold f1; rw [decide_eq_true hb]; rfl
      rw [e]
      exact .mk _ (ρ := []) r (AllT.app (If1_ok hk hlt hA hA' hb) (AllT.cons (OR_flat _) (fl4_ok x)))
    · have r := Ia1 fops x t u k s
      rw [wrap_succ hk (by omega)] at r
      have e : f1 fops x t u k s = f1B fops x t u k s := by unfold f1; rw [decide_eq_false hb]; rfl
      rw [e]
      exact .mk _ (ρ := []) r (AllT.app (It1_ok hk hlt hA hA' (by omega) hB' hb) (AllT.cons (OR_flat _) (fl4_ok x)))
  · exact .mk _ (ρ := []) (Ic1 fops x t u x.n2 s) (AllT.app (AllT.one' (by simp)) (AllT.cons (OR_flat _) (fl4_ok x)))
def IP1 (l0 l1 l2 k M N3 N2 N1 N0 n0 n1 n2 n3 : Int) (r r0 r1 r2 r3 : Int → List SC) : Prop := l0 = n0 ∧ l1 = n2 ∧ l2 = n2 ∧ k = 0 ∧ M = n0 ∧ Win (mkFD r0 r1 r2 r3 n0 n1 n2 n3) ∧ r = OR (fun j => datF r 0 j) ∧ Okd N3 N2 N1 N0 n0 n1 n2 n3 r0 r1 r2 r3
def IF1 (O : FOps) : List LD → Option (XO × List Bool)
  | [.f t, .f u, .i l0, .i l1, .i l2, .i k, .i M, .r r, .i N3, .r r3, .i N2, .r r2, .i N1, .r r1, .i N0, .r r0, .i n0, .i n1, .i n2, .i n3] => some ([(.t, .exit 0, Ie1, [.f t, .f u, .i n0] ++ [.i n0, .r (OR (foldFrom (f1 O (mkFD r0 r1 r2 r3 n0 n1 n2 n3) t u) 0 n2.toNat (fun j => datF r 0 j)))] ++ daR r0 r1 r2 r3 n0 n1 n2 n3)], [pB (IP1 l0 l1 l2 k M N3 N2 N1 N0 n0 n1 n2 n3 r r0 r1 r2 r3)])
  | _ => none
def IL1 (O : FOps) : List Ly → Top → Option Outs := orIter (cx0 O) NI (bodyOf Try.f75 3) (loopL NI 7 60 Ik1 [] (IF1 O))
set_option maxRecDepth 100000 in
theorem Io1 : CodeOK Try.prog NI (.loop (bodyOf Try.f75 3)) (IL1 fops) := by
  refine orIter_ok (l := L0) okL0 mixed 8 (loopL_ok (cx := cx0 fops) (lp := fun _ => none) (fun ts => body_ok (l := L0) okL0 mixed 8 _ ts) fun p r hr hob => ?_)
  unfold IF1 at hr
  split at hr <;> cases hr
  rename_i t u l0 l1 l2 k M r N3 r3 N2 r2 N1 r1 N0 r0 n0 n1 n2 n3
  obtain ⟨e0, e1, e2, ek, eM, hp, eR, eN0, eN1, eN2, eN3, b0, c0, b2, c2, b3, c3, s0, s1, s2, s3⟩ := pB_iff.1 hob.head
  rw [e0, e1, e2, ek, eM, eN0, eN1, eN2, eN3]
  have E := daA_eq (n0 := n0) (n1 := n1) (n2 := n2) (n3 := n3) s0 s1 s2 s3
  have h := Il1 (mkFD r0 r1 r2 r3 n0 n1 n2 n3) t u c2 hp n2.toNat 0 (fun j => datF r 0 j) (by decide) (by show (0 : Int) + (n2.toNat : Nat) = n2; omega)
  unfold ID1 at h
  unfold IE1 at h
  rw [E, ← eR] at h
  exact ⟨.exit 0, Ie1, _, rfl, h⟩
def Ik2 : Sk := ⟨[(1, .c (.flt .f32)), (2, .c (.flt .f32)), (3, .c (.ptr 5 0)), (7, .c (.sl 6 0 1 true)), (72, .c (.sl 1 0 4 false)), (73, .c (.int .i64)), (74, .c (.int .i64))], sgO true, 60⟩
def Ie2 : Sk := ⟨[(7, .c (.sl 6 0 1 true))], sgO true, 60⟩
def ID2 (x : FD) (t u : Nat) (k : Int) (s : Int → Nat) : List LD := [.f t, .f u, .i x.n0, .i x.n3, .i x.n3, .i k] ++ ([.i x.n0, .r (OR s)] ++ daA x)
def IE2 (x : FD) (t u : Nat) (s : Int → Nat) : List LD := [.i x.n0] ++ ([.i x.n0, .r (OR s)] ++ daA x)
def Ig2 (O : FOps) (h : List (Nat × Bool)) (sk : Sk) (x : FD) (t u : Nat) (k : Int) (s : Int → Nat) : Option (Option XK × List LD × List Bool) := goL (cx0 O) NI ⟨hints h, fun _ => none⟩ (bodyOf Try.f75 11) 60 120 Ik2 [] sk (ID2 x t u k s)
def It2 (O : FOps) (x : FD) (t u : Nat) (k : Int) (s : Int → Nat) : List Bool := [decide (k < x.n3), bd x.n3 k, bd x.n3 k, bd x.n0 (x.G3 0 k), bd x.n0 (x.G3 0 k), (decide (x.G3 1 k = -1) || bd x.n0 (x.G3 1 k)), (decide (x.G3 1 k = -1) || bd x.n0 (x.G3 1 k)), bd x.n0 (x.G3 0 k), bd x.n0 (x.G3 0 k), bd x.n0 (x.G3 0 k), bd x.n0 (x.G3 0 k), bd x.n0 (x.G3 0 k), bd x.n0 (x.G3 0 k), bd x.n0 (x.G3 0 k), bd x.n0 (x.G3 0 k), !(decide (x.G3 1 k = -1)), bd x.n0 (x.G3 1 k), bd x.n0 (x.G3 1 k), bd x.n0 (x.G3 1 k), bd x.n0 (x.G3 1 k)]
def If2 (O : FOps) (x : FD) (t u : Nat) (k : Int) (s : Int → Nat) : List Bool := [decide (k < x.n3), bd x.n3 k, bd x.n3 k, bd x.n0 (x.G3 0 k), bd x.n0 (x.G3 0 k), (decide (x.G3 1 k = -1) || bd x.n0 (x.G3 1 k)), (decide (x.G3 1 k = -1) || bd x.n0 (x.G3 1 k)), bd x.n0 (x.G3 0 k), bd x.n0 (x.G3 0 k), bd x.n0 (x.G3 0 k), bd x.n0 (x.G3 0 k), bd x.n0 (x.G3 0 k), bd x.n0 (x.G3 0 k), bd x.n0 (x.G3 0 k), bd x.n0 (x.G3 0 k), !(!(decide (x.G3 1 k = -1)))]
theorem It2_ok {O : FOps} {x : FD} {t u : Nat} {k : Int} {s : Int → Nat} (hk : 0 ≤ k) (hlt : k < x.n3) (hA : 0 ≤ x.G3 0 k) (hA' : x.G3 0 k < x.n0) (hB : 0 ≤ x.G3 1 k) (hB' : x.G3 1 k < x.n0) (hb : ¬ x.G3 1 k = -1) : AllT (It2 O x t u k s) := by
  unfold It2
  repeat' (first | exact AllT.nil | refine AllT.cons ?_ ?_)
  all_goals first | exact bd_ok hk hlt | exact bd_ok hA hA' | exact bd_ok hB hB' | exact decide_eq_true hlt | (rw [bd_ok hB hB', Bool.or_true]) | (rw [decide_eq_false hb]; rfl) | exact decide_eq_true hB
theorem If2_ok {O : FOps} {x : FD} {t u : Nat} {k : Int} {s : Int → Nat} (hk : 0 ≤ k) (hlt : k < x.n3) (hA : 0 ≤ x.G3 0 k) (hA' : x.G3 0 k < x.n0) (hb : x.G3 1 k = -1) : AllT (If2 O x t u k s) := by
  unfold If2
  repeat' (first | exact AllT.nil | refine AllT.cons ?_ ?_)
  all_goals first | exact bd_ok hk hlt | exact bd_ok hA hA' | exact decide_eq_true hlt | (rw [decide_eq_true hb]; rfl) | (rw [decide_eq_true (by omega : x.G3 1 k < 0)]; rfl) | (rw [decide_eq_false (by omega : ¬ 0 ≤ x.G3 1 k)]; rfl)
set_option maxRecDepth 100000 in
theorem Ia2 (O : FOps) (x : FD) (t u : Nat) (k : Int) (s : Int → Nat) : Ig2 O [(75, true), (116, true)] Ik2 x t u k s = some (none, ID2 x t u (IntKind.i64.wrap (k + 1)) (f2B O x t u k s), It2 O x t u k s ++ flatR (OR (f2B O x t u k s)) :: fl4 x) := by kernel_rfl
set_option maxRecDepth 100000 in
theorem Ib2 (O : FOps) (x : FD) (t u : Nat) (k : Int) (s : Int → Nat) : Ig2 O [(75, true), (116, false)] Ik2 x t u k s = some (none, ID2 x t u (IntKind.i64.wrap (k + 1)) (f2A O x t u k s), If2 O x t u k s ++ flatR (OR (f2A O x t u k s)) :: fl4 x) := by kernel_rfl
set_option maxRecDepth 100000 in
theorem Ic2 (O : FOps) (x : FD) (t u : Nat) (k : Int) (s : Int → Nat) : Ig2 O [(75, false)] Ie2 x t u k s = some (some (.exit 2), IE2 x t u s, [!decide (k < x.n3)] ++ flatR (OR s) :: fl4 x) := by kernel_rfl
theorem Il2 (x : FD) (t u : Nat) (hn : x.n3 ≤ 1048576) (hp : Pan x) : ∀ (m : Nat) (k : Int) (s : Int → Nat), 0 ≤ k → k + m = x.n3 →
    Loops (cx0 fops) NI (fun _ => none) (bodyOf Try.f75 11) 60 120 Ik2 (ID2 x t u k s) (.exit 2) Ie2 (IE2 x t u (foldFrom (f2 fops x t u) k m s)) := by
  refine fold_loops (D := ID2 x t u) (n := x.n3) (fun k s hk hlt => ?_) (fun s => ?_)
  · obtain ⟨hA, hA', hB, hB'⟩ := hp k hk hlt
    by_cases hb : x.G3 1 k = -1
    · have r := Ib2 fops x t u k s
      rw [wrap_succ hk (by omega)] at r
      have e : f2 fops x t u k s = f2A fops x t u k s := by unfold f2; rw [decide_eq_true hb]; rfl
      rw [e]
      exact .mk _ (ρ := []) r (AllT.app (If2_ok hk hlt hA hA' hb) (AllT.cons (OR_flat _) (fl4_ok x)))
    · have r := Ia2 fops x t u k s
      rw [wrap_succ hk (by omega)] at r
      have e : f2 fops x t u k s = f2B fops x t u k s := by unfold f2; rw [decide_eq_false hb]; rfl
      rw [e]
      exact .mk _ (ρ := []) r (AllT.app (It2_ok hk hlt hA hA' (by omega) hB' hb) (AllT.cons (OR_flat _) (fl4_ok x)))
  · exact .mk _ (ρ := []) (Ic2 fops x t u x.n3 s) (AllT.app (AllT.one' (by simp)) (AllT.cons (OR_flat _) (fl4_ok x)))
def IP2 (l0 l1 l2 k M N3 N2 N1 N0 n0 n1 n2 n3 : Int) (r r0 r1 r2 r3 : Int → List SC) : Prop := l0 = n0 ∧ l1 = n3 ∧ l2 = n3 ∧ k = 0 ∧ M = n0 ∧ Pan (mkFD r0 r1 r2 r3 n0 n1 n2 n3) ∧ r = OR (fun j => datF r 0 j) ∧ Okd N3 N2 N1 N0 n0 n1 n2 n3 r0 r1 r2 r3
def IF2 (O : FOps) : List LD → Option (XO × List Bool)
  | [.f t, .f u, .i l0, .i l1, .i l2, .i k, .i M, .r r, .i N3, .r r3, .i N2, .r r2, .i N1, .r r1, .i N0, .r r0, .i n0, .i n1, .i n2, .i n3] => some ([(.t, .exit 2, Ie2, [.i n0] ++ [.i n0, .r (OR (foldFrom (f2 O (mkFD r0 r1 r2 r3 n0 n1 n2 n3) t u) 0 n3.toNat (fun j => datF r 0 j)))] ++ daR r0 r1 r2 r3 n0 n1 n2 n3)], [pB (IP2 l0 l1 l2 k M N3 N2 N1 N0 n0 n1 n2 n3 r r0 r1 r2 r3)])
  | _ => none
def IL2 (O : FOps) : List Ly → Top → Option Outs := orIter (cx0 O) NI (bodyOf Try.f75 11) (loopL NI 60 120 Ik2 [] (IF2 O))
set_option maxRecDepth 100000 in
theorem Io2 : CodeOK Try.prog NI (.loop (bodyOf Try.f75 11)) (IL2 fops) := by
  refine orIter_ok (l := L0) okL0 mixed 8 (loopL_ok (cx := cx0 fops) (lp := fun _ => none) (fun ts => body_ok (l := L0) okL0 mixed 8 _ ts) fun p r hr hob => ?_)
  unfold IF2 at hr
  split at hr <;> cases hr
  rename_i t u l0 l1 l2 k M r N3 r3 N2 r2 N1 r1 N0 r0 n0 n1 n2 n3
  obtain ⟨e0, e1, e2, ek, eM, hp, eR, eN0, eN1, eN2, eN3, b0, c0, b2, c2, b3, c3, s0, s1, s2, s3⟩ := pB_iff.1 hob.head
  rw [e0, e1, e2, ek, eM, eN0, eN1, eN2, eN3]
  have E := daA_eq (n0 := n0) (n1 := n1) (n2 := n2) (n3 := n3) s0 s1 s2 s3
  have h := Il2 (mkFD r0 r1 r2 r3 n0 n1 n2 n3) t u c3 hp n3.toNat 0 (fun j => datF r 0 j) (by decide) (by show (0 : Int) + (n3.toNat : Nat) = n3; omega)
  unfold ID2 at h
  unfold IE2 at h
  rw [E, ← eR] at h
  exact ⟨.exit 2, Ie2, _, rfl, h⟩
set_option maxRecDepth 100000 in
theorem Ic : CallOK Try.prog 75 (inl (cx0 fops) Try.f75 ⟨fun _ => none, lpOf [(3, IL1 fops), (11, IL2 fops)]⟩) := by
  have hb : Try.f75.body.isSome = true := by kernel_rfl
  obtain ⟨c, hc⟩ := Option.isSome_iff_exists.1 hb
  have h1 : (match Try.f75.body with | some c => onceB (loopsIn c) && ((match loopAt 3 (loopsIn c) with | some _ => true | none => false) && (match loopAt 11 (loopsIn c) with | some _ => true | none => false)) | none => false) = true := by kernel_rfl
  rw [hc] at h1
  simp only [Bool.and_eq_true] at h1
  exact inlL_of (l := L0) (ls := [(3, IL1 fops), (11, IL2 fops)]) okL0 mixed 8 Try.func75 (by kernel_rfl) (fun _ => none) hc h1.1 ⟨⟨_, bodyOf_at hc h1.2.1, Io1⟩, ⟨_, bodyOf_at hc h1.2.2, Io2⟩, trivial⟩
/-! ### spec.l04Flows -/
noncomputable def NS : Nat := Try.f74.ntmps
def Sk1 : Sk := ⟨[(0, .c (.ptr 5 0)), (1, .c (.flt .f32)), (2, .c (.flt .f32)), (7, .c (.sl 6 0 1 true)), (8, .c (.int .i64))], sgO false, 7⟩
def Se1 : Sk := ⟨[(0, .c (.ptr 5 0)), (1, .c (.flt .f32)), (2, .c (.flt .f32)), (7, .c (.sl 6 0 1 true))], sgO false, 7⟩
def SD1 (x : FD) (t u : Nat) (k : Int) (s : Int → Nat) : List LD := [.f t, .f u, .i x.n0, .i k] ++ ([.i x.n0, .r (OR s)] ++ daA x)
def SE1 (x : FD) (t u : Nat) (s : Int → Nat) : List LD := [.f t, .f u, .i x.n0] ++ ([.i x.n0, .r (OR s)] ++ daA x)
def Sg1 (O : FOps) (h : List (Nat × Bool)) (sk : Sk) (x : FD) (t u : Nat) (k : Int) (s : Int → Nat) : Option (Option XK × List LD × List Bool) := goL (cx0 O) NS ⟨hints h, fun _ => none⟩ (bodyOf Try.f74 3) 7 60 Sk1 [] sk (SD1 x t u k s)
def St1 (O : FOps) (x : FD) (t u : Nat) (k : Int) (s : Int → Nat) : List Bool := [decide (k < x.n2), bd x.n2 k, bd x.n2 k, bd x.n2 k, bd x.n2 k, bd x.n0 (x.G2 0 k), bd x.n0 (x.G2 0 k), bd x.n2 k, bd x.n2 k, bd x.n0 (x.G2 0 k), bd x.n0 (x.G2 0 k), bd x.n0 (x.G2 0 k), bd x.n0 (x.G2 0 k), bd x.n2 k, decide (0 ≤ x.G2 1 k), bd x.n2 k, bd x.n2 k, bd x.n0 (x.G2 1 k), bd x.n0 (x.G2 1 k), bd x.n2 k, bd x.n2 k, bd x.n0 (x.G2 1 k), bd x.n0 (x.G2 1 k), bd x.n0 (x.G2 1 k), bd x.n0 (x.G2 1 k)]
def Sf1 (O : FOps) (x : FD) (t u : Nat) (k : Int) (s : Int → Nat) : List Bool := [decide (k < x.n2), bd x.n2 k, bd x.n2 k, bd x.n2 k, bd x.n2 k, bd x.n0 (x.G2 0 k), bd x.n0 (x.G2 0 k), bd x.n2 k, bd x.n2 k, bd x.n0 (x.G2 0 k), bd x.n0 (x.G2 0 k), bd x.n0 (x.G2 0 k), bd x.n0 (x.G2 0 k), bd x.n2 k, !(decide (0 ≤ x.G2 1 k))]
theorem St1_ok {O : FOps} {x : FD} {t u : Nat} {k : Int} {s : Int → Nat} (hk : 0 ≤ k) (hlt : k < x.n2) (hA : 0 ≤ x.G2 0 k) (hA' : x.G2 0 k < x.n0) (hB : 0 ≤ x.G2 1 k) (hB' : x.G2 1 k < x.n0) (hb : ¬ x.G2 1 k = -1) : AllT (St1 O x t u k s) := by
  unfold St1
  repeat' (first | exact AllT.nil | refine AllT.cons ?_ ?_)
  all_goals first | exact bd_ok hk hlt | exact bd_ok hA hA' | exact bd_ok hB hB' | exact decide_eq_true hlt | (rw [bd_ok hB hB', Bool.or_true]) | (rw [decide_eq_false hb]; rfl) | exact decide_eq_true hB
theorem Sf1_ok {O : FOps} {x : FD} {t u : Nat} {k : Int} {s : Int → Nat} (hk : 0 ≤ k) (hlt : k < x.n2) (hA : 0 ≤ x.G2 0 k) (hA' : x.G2 0 k < x.n0) (hb : x.G2 1 k = -1) : AllT (Sf1 O x t u k s) := by
  unfold Sf1
  repeat' (first | exact AllT.nil | refine AllT.cons ?_ ?_)
  all_goals first | exact bd_ok hk hlt | exact bd_ok hA hA' | exact decide_eq_true hlt | (rw [decide_eq_true hb]; rfl) | (rw [decide_eq_true (by omega : x.G2 1 k < 0)]; rfl) | (rw [decide_eq_false (by omega : ¬ 0 ≤ x.G2 1 k)]; rfl)
set_option maxRecDepth 100000 in
theorem Sa1 (O : FOps) (x : FD) (t u : Nat) (k : Int) (s : Int → Nat) : Sg1 O [(26, true), (76, true)] Sk1 x t u k s = some (none, SD1 x t u (IntKind.i64.wrap (k + 1)) (f1B O x t u k s), St1 O x t u k s ++ flatR (OR (f1B O x t u k s)) :: fl4 x) := by kernel_rfl
set_option maxRecDepth 100000 in
theorem Sb1 (O : FOps) (x : FD) (t u : Nat) (k : Int) (s : Int → Nat) : Sg1 O [(26, true), (76, false)] Sk1 x t u k s = some (none, SD1 x t u (IntKind.i64.wrap (k + 1)) (f1A O x t u k s), Sf1 O x t u k s ++ flatR (OR (f1A O x t u k s)) :: fl4 x) := by kernel_rfl
set_option maxRecDepth 100000 in
theorem Sc1 (O : FOps) (x : FD) (t u : Nat) (k : Int) (s : Int → Nat) : Sg1 O [(26, false)] Se1 x t u k s = some (some (.exit 0), SE1 x t u s, [!decide (k < x.n2)] ++ flatR (OR s) :: fl4 x) := by kernel_rfl
theorem Sl1 (x : FD) (t u : Nat) (hn : x.n2 ≤ 1048576) (hp : Win x) : ∀ (m : Nat) (k : Int) (s : Int → Nat), 0 ≤ k → k + m = x.n2 →
    Loops (cx0 fops) NS (fun _ => none) (bodyOf Try.f74 3) 7 60 Sk1 (SD1 x t u k s) (.exit 0) Se1 (SE1 x t u (foldFrom (f1 fops x t u) k m s)) := by
  refine fold_loops (D := SD1 x t u) (n := x.n2) (fun k s hk hlt => ?_) (fun s => ?_)
  · obtain ⟨hA, hA', hB, hB'⟩ := hp k hk hlt
    by_cases hb : x.G2 1 k = -1
    · have r := Sb1 fops x t u k s
      rw [wrap_succ hk (by omega)] at r
      have e : f1 fops x t u k s = f1A fops x t u k s := by unfold f1; rw [decide_eq_true hb]; rfl
      rw [e]
      exact .mk _ (ρ := []) r (AllT.app (Sf1_ok hk hlt hA hA' hb) (AllT.cons (OR_flat _) (fl4_ok x)))
    · have r := Sa1 fops x t u k s
      rw [wrap_succ hk (by omega)] at r
      have e : f1 fops x t u k s = f1B fops x t u k s := by unfold f1; rw [decide_eq_false hb]; rfl
      rw [e]
      exact .mk _ (ρ := []) r (AllT.app (St1_ok hk hlt hA hA' (by omega) hB' hb) (AllT.cons (OR_flat _) (fl4_ok x)))
  · exact .mk _ (ρ := []) (Sc1 fops x t u x.n2 s) (AllT.app (AllT.one' (by simp)) (AllT.cons (OR_flat _) (fl4_ok x)))
def SP1 (l0 k M N3 N2 N1 N0 n0 n1 n2 n3 : Int) (r r0 r1 r2 r3 : Int → List SC) : Prop := l0 = n0 ∧ k = 0 ∧ M = n0 ∧ Win (mkFD r0 r1 r2 r3 n0 n1 n2 n3) ∧ r = OR (fun j => datF r 0 j) ∧ Okd N3 N2 N1 N0 n0 n1 n2 n3 r0 r1 r2 r3
def SF1 (O : FOps) : List LD → Option (XO × List Bool)
  | [.f t, .f u, .i l0, .i k, .i M, .r r, .i N3, .r r3, .i N2, .r r2, .i N1, .r r1, .i N0, .r r0, .i n0, .i n1, .i n2, .i n3] => some ([(.t, .exit 0, Se1, [.f t, .f u, .i n0] ++ [.i n0, .r (OR (foldFrom (f1 O (mkFD r0 r1 r2 r3 n0 n1 n2 n3) t u) 0 n2.toNat (fun j => datF r 0 j)))] ++ daR r0 r1 r2 r3 n0 n1 n2 n3)], [pB (SP1 l0 k M N3 N2 N1 N0 n0 n1 n2 n3 r r0 r1 r2 r3)])
  | _ => none
def SL1 (O : FOps) : List Ly → Top → Option Outs := orIter (cx0 O) NS (bodyOf Try.f74 3) (loopL NS 7 60 Sk1 [] (SF1 O))
set_option maxRecDepth 100000 in
theorem So1 : CodeOK Try.prog NS (.loop (bodyOf Try.f74 3)) (SL1 fops) := by
  refine orIter_ok (l := L0) okL0 mixed 8 (loopL_ok (cx := cx0 fops) (lp := fun _ => none) (fun ts => body_ok (l := L0) okL0 mixed 8 _ ts) fun p r hr hob => ?_)
  unfold SF1 at hr
  split at hr <;> cases hr
  rename_i t u l0 k M r N3 r3 N2 r2 N1 r1 N0 r0 n0 n1 n2 n3
  obtain ⟨e0, ek, eM, hp, eR, eN0, eN1, eN2, eN3, b0, c0, b2, c2, b3, c3, s0, s1, s2, s3⟩ := pB_iff.1 hob.head
  rw [e0, ek, eM, eN0, eN1, eN2, eN3]
  have E := daA_eq (n0 := n0) (n1 := n1) (n2 := n2) (n3 := n3) s0 s1 s2 s3
  have h := Sl1 (mkFD r0 r1 r2 r3 n0 n1 n2 n3) t u c2 hp n2.toNat 0 (fun j => datF r 0 j) (by decide) (by show (0 : Int) + (n2.toNat : Nat) = n2; omega)
  unfold SD1 at h
  unfold SE1 at h
  rw [E, ← eR] at h
  exact ⟨.exit 0, Se1, _, rfl, h⟩
def Sk2 : Sk := ⟨[(0, .c (.ptr 5 0)), (1, .c (.flt .f32)), (2, .c (.flt .f32)), (7, .c (.sl 6 0 1 true)), (11, .c (.int .i64))], sgO false, 60⟩
def Se2 : Sk := ⟨[(7, .c (.sl 6 0 1 true))], sgO false, 60⟩
def SD2 (x : FD) (t u : Nat) (k : Int) (s : Int → Nat) : List LD := [.f t, .f u, .i x.n0, .i k] ++ ([.i x.n0, .r (OR s)] ++ daA x)
def SE2 (x : FD) (t u : Nat) (s : Int → Nat) : List LD := [.i x.n0] ++ ([.i x.n0, .r (OR s)] ++ daA x)
def Sg2 (O : FOps) (h : List (Nat × Bool)) (sk : Sk) (x : FD) (t u : Nat) (k : Int) (s : Int → Nat) : Option (Option XK × List LD × List Bool) := goL (cx0 O) NS ⟨hints h, fun _ => none⟩ (bodyOf Try.f74 11) 60 120 Sk2 [] sk (SD2 x t u k s)
def St2 (O : FOps) (x : FD) (t u : Nat) (k : Int) (s : Int → Nat) : List Bool := [decide (k < x.n3), bd x.n3 k, bd x.n3 k, (decide (x.G3 1 k < 0) || bd x.n0 (x.G3 1 k)), (decide (x.G3 1 k < 0) || bd x.n0 (x.G3 1 k)), bd x.n3 k, bd x.n3 k, bd x.n0 (x.G3 0 k), bd x.n0 (x.G3 0 k), bd x.n3 k, bd x.n3 k, bd x.n0 (x.G3 0 k), bd x.n0 (x.G3 0 k), bd x.n3 k, bd x.n0 (x.G3 0 k), bd x.n0 (x.G3 0 k), bd x.n3 k, decide (0 ≤ x.G3 1 k), bd x.n3 k, bd x.n3 k, bd x.n0 (x.G3 1 k), bd x.n0 (x.G3 1 k), bd x.n3 k, bd x.n3 k, bd x.n0 (x.G3 0 k), bd x.n0 (x.G3 0 k), bd x.n0 (x.G3 1 k), bd x.n0 (x.G3 1 k)]
def Sf2 (O : FOps) (x : FD) (t u : Nat) (k : Int) (s : Int → Nat) : List Bool := [decide (k < x.n3), bd x.n3 k, bd x.n3 k, (decide (x.G3 1 k < 0) || bd x.n0 (x.G3 1 k)), (decide (x.G3 1 k < 0) || bd x.n0 (x.G3 1 k)), bd x.n3 k, bd x.n3 k, bd x.n0 (x.G3 0 k), bd x.n0 (x.G3 0 k), bd x.n3 k, bd x.n3 k, bd x.n0 (x.G3 0 k), bd x.n0 (x.G3 0 k), bd x.n3 k, bd x.n0 (x.G3 0 k), bd x.n0 (x.G3 0 k), bd x.n3 k, !(decide (0 ≤ x.G3 1 k))]
theorem St2_ok {O : FOps} {x : FD} {t u : Nat} {k : Int} {s : Int → Nat} (hk : 0 ≤ k) (hlt : k < x.n3) (hA : 0 ≤ x.G3 0 k) (hA' : x.G3 0 k < x.n0) (hB : 0 ≤ x.G3 1 k) (hB' : x.G3 1 k < x.n0) (hb : ¬ x.G3 1 k = -1) : AllT (St2 O x t u k s) := by
  unfold St2
  repeat' (first | exact AllT.nil | refine AllT.cons ?_ ?_)
  all_goals first | exact bd_ok hk hlt | exact bd_ok hA hA' | exact bd_ok hB hB' | exact decide_eq_true hlt | (rw [bd_ok hB hB', Bool.or_true]) | (rw [decide_eq_false hb]; rfl) | exact decide_eq_true hB
theorem Sf2_ok {O : FOps} {x : FD} {t u : Nat} {k : Int} {s : Int → Nat} (hk : 0 ≤ k) (hlt : k < x.n3) (hA : 0 ≤ x.G3 0 k) (hA' : x.G3 0 k < x.n0) (hb : x.G3 1 k = -1) : AllT (Sf2 O x t u k s) := by
  unfold Sf2
  repeat' (first | exact AllT.nil | refine AllT.cons ?_ ?_)
  all_goals first | exact bd_ok hk hlt | exact bd_ok hA hA' | exact decide_eq_true hlt | (rw [decide_eq_true hb]; rfl) | (rw [decide_eq_true (by omega : x.G3 1 k < 0)]; rfl) | (rw [decide_eq_false (by omega : ¬ 0 ≤ x.G3 1 k)]; rfl)
set_option maxRecDepth 100000 in
theorem Sa2 (O : FOps) (x : FD) (t u : Nat) (k : Int) (s : Int → Nat) : Sg2 O [(115, true), (176, true)] Sk2 x t u k s = some (none, SD2 x t u (IntKind.i64.wrap (k + 1)) (g2B O x t u k s), St2 O x t u k s ++ flatR (OR (g2B O x t u k s)) :: fl4 x) := by kernel_rfl
set_option maxRecDepth 100000 in
theorem Sb2 (O : FOps) (x : FD) (t u : Nat) (k : Int) (s : Int → Nat) : Sg2 O [(115, true), (176, false)] Sk2 x t u k s = some (none, SD2 x t u (IntKind.i64.wrap (k + 1)) (g2A O x t u k s), Sf2 O x t u k s ++ flatR (OR (g2A O x t u k s)) :: fl4 x) := by kernel_rfl
set_option maxRecDepth 100000 in
theorem Sc2 (O : FOps) (x : FD) (t u : Nat) (k : Int) (s : Int → Nat) : Sg2 O [(115, false)] Se2 x t u k s = some (some (.exit 2), SE2 x t u s, [!decide (k < x.n3)] ++ flatR (OR s) :: fl4 x) := by kernel_rfl
theorem Sl2 (x : FD) (t u : Nat) (hn : x.n3 ≤ 1048576) (hp : Pan x) : ∀ (m : Nat) (k : Int) (s : Int → Nat), 0 ≤ k → k + m = x.n3 →
    Loops (cx0 fops) NS (fun _ => none) (bodyOf Try.f74 11) 60 120 Sk2 (SD2 x t u k s) (.exit 2) Se2 (SE2 x t u (foldFrom (g2 fops x t u) k m s)) := by
  refine fold_loops (D := SD2 x t u) (n := x.n3) (fun k s hk hlt => ?_) (fun s => ?_)
  · obtain ⟨hA, hA', hB, hB'⟩ := hp k hk hlt
    by_cases hb : x.G3 1 k = -1
    · have r := Sb2 fops x t u k s
      rw [wrap_succ hk (by omega)] at r
      have e : g2 fops x t u k s = g2A fops x t u k s := by unfold g2; rw [decide_eq_true hb]; rfl
      rw [e]
      exact .mk _ (ρ := []) r (AllT.app (Sf2_ok hk hlt hA hA' hb) (AllT.cons (OR_flat _) (fl4_ok x)))
    · have r := Sa2 fops x t u k s
      rw [wrap_succ hk (by omega)] at r
      have e : g2 fops x t u k s = g2B fops x t u k s := by unfold g2; rw [decide_eq_false hb]; rfl
      rw [e]
      exact .mk _ (ρ := []) r (AllT.app (St2_ok hk hlt hA hA' (by omega) hB' hb) (AllT.cons (OR_flat _) (fl4_ok x)))
  · exact .mk _ (ρ := []) (Sc2 fops x t u x.n3 s) (AllT.app (AllT.one' (by simp)) (AllT.cons (OR_flat _) (fl4_ok x)))
def SP2 (l0 k M N3 N2 N1 N0 n0 n1 n2 n3 : Int) (r r0 r1 r2 r3 : Int → List SC) : Prop := l0 = n0 ∧ k = 0 ∧ M = n0 ∧ Pan (mkFD r0 r1 r2 r3 n0 n1 n2 n3) ∧ r = OR (fun j => datF r 0 j) ∧ Okd N3 N2 N1 N0 n0 n1 n2 n3 r0 r1 r2 r3
def SF2 (O : FOps) : List LD → Option (XO × List Bool)
  | [.f t, .f u, .i l0, .i k, .i M, .r r, .i N3, .r r3, .i N2, .r r2, .i N1, .r r1, .i N0, .r r0, .i n0, .i n1, .i n2, .i n3] => some ([(.t, .exit 2, Se2, [.i n0] ++ [.i n0, .r (OR (foldFrom (g2 O (mkFD r0 r1 r2 r3 n0 n1 n2 n3) t u) 0 n3.toNat (fun j => datF r 0 j)))] ++ daR r0 r1 r2 r3 n0 n1 n2 n3)], [pB (SP2 l0 k M N3 N2 N1 N0 n0 n1 n2 n3 r r0 r1 r2 r3)])
  | _ => none
def SL2 (O : FOps) : List Ly → Top → Option Outs := orIter (cx0 O) NS (bodyOf Try.f74 11) (loopL NS 60 120 Sk2 [] (SF2 O))
set_option maxRecDepth 100000 in
theorem So2 : CodeOK Try.prog NS (.loop (bodyOf Try.f74 11)) (SL2 fops) := by
  refine orIter_ok (l := L0) okL0 mixed 8 (loopL_ok (cx := cx0 fops) (lp := fun _ => none) (fun ts => body_ok (l := L0) okL0 mixed 8 _ ts) fun p r hr hob => ?_)
  unfold SF2 at hr
  split at hr <;> cases hr
  rename_i t u l0 k M r N3 r3 N2 r2 N1 r1 N0 r0 n0 n1 n2 n3
  obtain ⟨e0, ek, eM, hp, eR, eN0, eN1, eN2, eN3, b0, c0, b2, c2, b3, c3, s0, s1, s2, s3⟩ := pB_iff.1 hob.head
  rw [e0, ek, eM, eN0, eN1, eN2, eN3]
  have E := daA_eq (n0 := n0) (n1 := n1) (n2 := n2) (n3 := n3) s0 s1 s2 s3
  have h := Sl2 (mkFD r0 r1 r2 r3 n0 n1 n2 n3) t u c3 hp n3.toNat 0 (fun j => datF r 0 j) (by decide) (by show (0 : Int) + (n3.toNat : Nat) = n3; omega)
  unfold SD2 at h
  unfold SE2 at h
  rw [E, ← eR] at h
  exact ⟨.exit 2, Se2, _, rfl, h⟩
set_option maxRecDepth 100000 in
theorem Sc : CallOK Try.prog 74 (inl (cx0 fops) Try.f74 ⟨fun _ => none, lpOf [(3, SL1 fops), (11, SL2 fops)]⟩) := by
  have hb : Try.f74.body.isSome = true := by kernel_rfl
  obtain ⟨c, hc⟩ := Option.isSome_iff_exists.1 hb
  have h1 : (match Try.f74.body with | some c => onceB (loopsIn c) && ((match loopAt 3 (loopsIn c) with | some _ => true | none => false) && (match loopAt 11 (loopsIn c) with | some _ => true | none => false)) | none => false) = true := by kernel_rfl
  rw [hc] at h1
  simp only [Bool.and_eq_true] at h1
  exact inlL_of (l := L0) (ls := [(3, SL1 fops), (11, SL2 fops)]) okL0 mixed 8 Try.func74 (by kernel_rfl) (fun _ => none) hc h1.1 ⟨⟨_, bodyOf_at hc h1.2.1, So1⟩, ⟨_, bodyOf_at hc h1.2.2, So2⟩, trivial⟩
end
end Go.Proofs.Ytopliajfonpbcaa.Rfl0
