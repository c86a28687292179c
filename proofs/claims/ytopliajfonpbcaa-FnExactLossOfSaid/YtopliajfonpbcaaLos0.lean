/- What goes outside: the sums. Nothing is assumed. -/
import Derived.Test.YtopliajfonpbcaaFld
namespace Go.Proofs.Ytopliajfonpbcaa.Los0
open Go Fla
noncomputable section
def f1 (O : FOps) (x : FD) (t : Nat) (k : Int) (s : Nat) : Nat := bif decide (x.G2 1 k = -1) then O.bin .add .f32 s (O.bin .mul .f32 (O.bin .mul .f32 1073741824 (x.F2 2 k)) (O.bin .sub .f32 (x.F2 7 k) t)) else s
def f1S (O : FOps) (x : FD) (t : Nat) (k : Int) (s : Nat) : Nat := bif decide (x.G2 1 k < 0) then O.bin .add .f32 s (O.bin .mul .f32 (O.bin .mul .f32 1073741824 (x.F2 2 k)) (O.bin .sub .f32 (x.F2 7 k) t)) else s
def f2 (O : FOps) (x : FD) (t : Nat) (k : Int) (s : Nat) : Nat := bif decide (x.G3 1 k = -1) then O.bin .add .f32 s (O.bin .mul .f32 (x.F3 2 k) (O.bin .sub .f32 (x.F0 0 (x.G3 0 k)) t)) else s
def f2S (O : FOps) (x : FD) (t : Nat) (k : Int) (s : Nat) : Nat := bif decide (x.G3 1 k < 0) then O.bin .add .f32 s (O.bin .mul .f32 (x.F3 2 k) (O.bin .sub .f32 (x.F0 0 (x.G3 0 k)) t)) else s
def g2 (x : FD) (k : Int) : List Bool := gdB (!decide (x.G3 1 k = -1)) [bd x.n0 (x.G3 0 k), bd x.n0 (x.G3 0 k)]
def g1S (x : FD) (k : Int) : List Bool := gdB (!decide (x.G2 1 k < 0)) [bd x.n2 k, bd x.n2 k]
def g2S (x : FD) (k : Int) : List Bool := gdB (!decide (x.G3 1 k < 0)) [bd x.n3 k, bd x.n3 k, bd x.n0 (x.G3 0 k), bd x.n0 (x.G3 0 k)]
/-- Each pane stands in a room. -/
def Pin (x : FD) : Prop := ∀ k, 0 ≤ k → k < x.n3 → 0 ≤ x.G3 0 k ∧ x.G3 0 k < x.n0
theorem g2_ok {x : FD} (hp : Pin x) {k : Int} (h0 : 0 ≤ k) (h1 : k < x.n3) : AllT (g2 x k) := gdB_ok fun _ => by
  obtain ⟨a, b⟩ := hp k h0 h1
  exact AllT.cons (bd_ok a b) (AllT.one' (bd_ok a b))
theorem g1S_ok (x : FD) {k : Int} (h0 : 0 ≤ k) (h1 : k < x.n2) : AllT (g1S x k) := gdB_ok fun _ => AllT.cons (bd_ok h0 h1) (AllT.one' (bd_ok h0 h1))
theorem g2S_ok {x : FD} (hp : Pin x) {k : Int} (h0 : 0 ≤ k) (h1 : k < x.n3) : AllT (g2S x k) := gdB_ok fun _ => by
  obtain ⟨a, b⟩ := hp k h0 h1
  exact AllT.cons (bd_ok h0 h1) (AllT.cons (bd_ok h0 h1) (AllT.cons (bd_ok a b) (AllT.one' (bd_ok a b))))
/-! ### impl.lossOf -/
noncomputable def NI : Nat := Try.f71.ntmps
noncomputable def Ik1 : Sk := ⟨[(1, .c (.flt .f32)), (2, .c (.ptr 5 0)), (5, .c (.flt .f32)), (11, .c (.sl 2 0 8 false)), (12, .c (.int .i64)), (13, .c (.int .i64))], sgA true, 6⟩
noncomputable def Ie1 : Sk := ⟨[(1, .c (.flt .f32)), (2, .c (.ptr 5 0)), (5, .c (.flt .f32))], sgA true, 6⟩
noncomputable def ID1 (x : FD) (t : Nat) (k : Int) (s : Nat) : List LD := [.f t, .f s, .i x.n2, .i x.n2, .i k] ++ daA x
noncomputable def IE1 (x : FD) (t : Nat) (s : Nat) : List LD := [.f t, .f s] ++ daA x
noncomputable def Ig1 (O : FOps) (tt : Bool) (sk : Sk) (x : FD) (t : Nat) (k : Int) (s : Nat) : Option (Option XK × List LD × List Bool) := goL (cx0 O) NI ⟨hints [(14, tt)], fun _ => none⟩ (bodyOf Try.f71 3) 6 60 Ik1 [] sk (ID1 x t k s)
set_option maxRecDepth 100000 in
theorem Ia1 (O : FOps) (x : FD) (t : Nat) (k : Int) (s : Nat) : Ig1 O true Ik1 x t k s = some (none, ID1 x t (IntKind.i64.wrap (k + 1)) (f1 O x t k s), hd3 x.n2 k ++ fl4 x) := by kernel_rfl
set_option maxRecDepth 100000 in
theorem Ib1 (O : FOps) (x : FD) (t : Nat) (k : Int) (s : Nat) : Ig1 O false Ie1 x t k s = some (some (.exit 0), IE1 x t s, [!decide (k < x.n2)] ++ fl4 x) := by kernel_rfl
theorem Il1 (x : FD) (t : Nat) (hn : x.n2 ≤ 1048576) : ∀ (m : Nat) (k : Int) (s : Nat), 0 ≤ k → k + m = x.n2 → 
    Loops (cx0 fops) NI (fun _ => none) (bodyOf Try.f71 3) 6 60 Ik1 (ID1 x t k s) (.exit 0) Ie1 (IE1 x t (foldFrom (f1 fops x t) k m s)) := by
  refine fold_loops (D := ID1 x t) (n := x.n2) (fun k s hk hlt => ?_) (fun s => ?_)
  · have r := Ia1 fops x t k s
    rw [wrap_succ hk (by omega)] at r
    exact .mk _ (ρ := []) r (AllT.app (hd3_ok hk hlt) (fl4_ok x))
  · exact .mk _ (ρ := []) (Ib1 fops x t x.n2 s) (AllT.app (AllT.one' (by simp)) (fl4_ok x))
def IP1 (l1 l2 : Int) (k N3 N2 N1 N0 n0 n1 n2 n3 : Int) (r0 r1 r2 r3 : Int → List SC) : Prop := l1 = n2 ∧ l2 = n2 ∧ k = 0 ∧ Okd N3 N2 N1 N0 n0 n1 n2 n3 r0 r1 r2 r3
noncomputable def IF1 (O : FOps) : List LD → Option (XO × List Bool)
  | [.f t, .f s, .i l1, .i l2, .i k, .i N3, .r r3, .i N2, .r r2, .i N1, .r r1, .i N0, .r r0, .i n0, .i n1, .i n2, .i n3] => some ([(.t, .exit 0, Ie1, [.f t, .f (foldFrom (f1 O (mkFD r0 r1 r2 r3 n0 n1 n2 n3) t) 0 n2.toNat s)] ++ daR r0 r1 r2 r3 n0 n1 n2 n3)], [pB (IP1 l1 l2  k N3 N2 N1 N0 n0 n1 n2 n3 r0 r1 r2 r3)])
  | _ => none
noncomputable def IL1 (O : FOps) : List Ly → Top → Option Outs := orIter (cx0 O) NI (bodyOf Try.f71 3) (loopL NI 6 60 Ik1 [] (IF1 O))
set_option maxRecDepth 100000 in
theorem Io1 : CodeOK Try.prog NI (.loop (bodyOf Try.f71 3)) (IL1 fops) := by
  refine orIter_ok (l := L0) okL0 mixed 8 (loopL_ok (cx := cx0 fops) (lp := fun _ => none) (fun ts => body_ok (l := L0) okL0 mixed 8 _ ts) fun p r hr hob => ?_)
  unfold IF1 at hr
  split at hr <;> cases hr
  rename_i t s l1 l2 k N3 r3 N2 r2 N1 r1 N0 r0 n0 n1 n2 n3
  obtain ⟨e0, e1, ek, eN0, eN1, eN2, eN3, b0, c0, b2, c2, b3, c3, s0, s1, s2, s3⟩ := pB_iff.1 hob.head
  rw [e0, e1, ek, eN0, eN1, eN2, eN3]
  have E := daA_eq (n0 := n0) (n1 := n1) (n2 := n2) (n3 := n3) s0 s1 s2 s3
  have h := Il1 (mkFD r0 r1 r2 r3 n0 n1 n2 n3) t c2  (n2.toNat) 0 s (by decide) (by show (0 : Int) + (n2.toNat : Nat) = n2; omega)
  unfold ID1 at h
  unfold IE1 at h
  rw [E] at h
  exact ⟨.exit 0, Ie1, _, rfl, h⟩
noncomputable def Ik2 : Sk := ⟨[(1, .c (.flt .f32)), (2, .c (.ptr 5 0)), (5, .c (.flt .f32)), (33, .c (.sl 1 0 4 false)), (34, .c (.int .i64)), (35, .c (.int .i64))], sgA true, 60⟩
noncomputable def Ie2 : Sk := ⟨[(5, .c (.flt .f32))], [], 60⟩
noncomputable def ID2 (x : FD) (t : Nat) (k : Int) (s : Nat) : List LD := [.f t, .f s, .i x.n3, .i x.n3, .i k] ++ daA x
noncomputable def IE2 (x : FD) (t : Nat) (s : Nat) : List LD := [.f s]
noncomputable def Ig2 (O : FOps) (tt : Bool) (sk : Sk) (x : FD) (t : Nat) (k : Int) (s : Nat) : Option (Option XK × List LD × List Bool) := goL (cx0 O) NI ⟨hints [(36, tt)], fun _ => none⟩ (bodyOf Try.f71 9) 60 120 Ik2 [] sk (ID2 x t k s)
set_option maxRecDepth 100000 in
theorem Ia2 (O : FOps) (x : FD) (t : Nat) (k : Int) (s : Nat) : Ig2 O true Ik2 x t k s = some (none, ID2 x t (IntKind.i64.wrap (k + 1)) (f2 O x t k s), hd3 x.n3 k ++ g2 x k ++ fl4 x) := by kernel_rfl
set_option maxRecDepth 100000 in
theorem Ib2 (O : FOps) (x : FD) (t : Nat) (k : Int) (s : Nat) : Ig2 O false Ie2 x t k s = some (some (.exit 2), IE2 x t s, [!decide (k < x.n3)]) := by kernel_rfl
theorem Il2 (x : FD) (t : Nat) (hn : x.n3 ≤ 1048576) (hp : Pin x) : ∀ (m : Nat) (k : Int) (s : Nat), 0 ≤ k → k + m = x.n3 → 
    Loops (cx0 fops) NI (fun _ => none) (bodyOf Try.f71 9) 60 120 Ik2 (ID2 x t k s) (.exit 2) Ie2 (IE2 x t (foldFrom (f2 fops x t) k m s)) := by
  refine fold_loops (D := ID2 x t) (n := x.n3) (fun k s hk hlt => ?_) (fun s => ?_)
  · have r := Ia2 fops x t k s
    rw [wrap_succ hk (by omega)] at r
    exact .mk _ (ρ := []) r (AllT.app (AllT.app (hd3_ok hk hlt) (g2_ok hp hk hlt)) (fl4_ok x))
  · exact .mk _ (ρ := []) (Ib2 fops x t x.n3 s) (AllT.one' (by simp))
def IP2 (l1 l2 : Int) (k N3 N2 N1 N0 n0 n1 n2 n3 : Int) (r0 r1 r2 r3 : Int → List SC) : Prop := l1 = n3 ∧ l2 = n3 ∧ k = 0 ∧ Pin (mkFD r0 r1 r2 r3 n0 n1 n2 n3) ∧ Okd N3 N2 N1 N0 n0 n1 n2 n3 r0 r1 r2 r3
noncomputable def IF2 (O : FOps) : List LD → Option (XO × List Bool)
  | [.f t, .f s, .i l1, .i l2, .i k, .i N3, .r r3, .i N2, .r r2, .i N1, .r r1, .i N0, .r r0, .i n0, .i n1, .i n2, .i n3] => some ([(.t, .exit 2, Ie2, [.f (foldFrom (f2 O (mkFD r0 r1 r2 r3 n0 n1 n2 n3) t) 0 n3.toNat s)])], [pB (IP2 l1 l2  k N3 N2 N1 N0 n0 n1 n2 n3 r0 r1 r2 r3)])
  | _ => none
noncomputable def IL2 (O : FOps) : List Ly → Top → Option Outs := orIter (cx0 O) NI (bodyOf Try.f71 9) (loopL NI 60 120 Ik2 [] (IF2 O))
set_option maxRecDepth 100000 in
theorem Io2 : CodeOK Try.prog NI (.loop (bodyOf Try.f71 9)) (IL2 fops) := by
  refine orIter_ok (l := L0) okL0 mixed 8 (loopL_ok (cx := cx0 fops) (lp := fun _ => none) (fun ts => body_ok (l := L0) okL0 mixed 8 _ ts) fun p r hr hob => ?_)
  unfold IF2 at hr
  split at hr <;> cases hr
  rename_i t s l1 l2 k N3 r3 N2 r2 N1 r1 N0 r0 n0 n1 n2 n3
  obtain ⟨e0, e1, ek, hp, eN0, eN1, eN2, eN3, b0, c0, b2, c2, b3, c3, s0, s1, s2, s3⟩ := pB_iff.1 hob.head
  rw [e0, e1, ek, eN0, eN1, eN2, eN3]
  have E := daA_eq (n0 := n0) (n1 := n1) (n2 := n2) (n3 := n3) s0 s1 s2 s3
  have h := Il2 (mkFD r0 r1 r2 r3 n0 n1 n2 n3) t c3 hp (n3.toNat) 0 s (by decide) (by show (0 : Int) + (n3.toNat : Nat) = n3; omega)
  unfold ID2 at h
  skip
  rw [E] at h
  exact ⟨.exit 2, Ie2, _, rfl, h⟩
set_option maxRecDepth 100000 in
theorem Ic : CallOK Try.prog 71 (inl (cx0 fops) Try.f71 ⟨fun _ => none, lpOf [(3, IL1 fops), (9, IL2 fops)]⟩) := by
  have hb : Try.f71.body.isSome = true := by kernel_rfl
  obtain ⟨c, hc⟩ := Option.isSome_iff_exists.1 hb
  have h1 : (match Try.f71.body with | some c => onceB (loopsIn c) && ((match loopAt 3 (loopsIn c) with | some _ => true | none => false) && (match loopAt 9 (loopsIn c) with | some _ => true | none => false)) | none => false) = true := by kernel_rfl
  rw [hc] at h1
  simp only [Bool.and_eq_true] at h1
  exact inlL_of (l := L0) (ls := [(3, IL1 fops), (9, IL2 fops)]) okL0 mixed 8 Try.func71 (by kernel_rfl) (fun _ => none) hc h1.1 ⟨⟨_, bodyOf_at hc h1.2.1, Io1⟩, ⟨_, bodyOf_at hc h1.2.2, Io2⟩, trivial⟩
/-! ### spec.l04Loss -/
noncomputable def NS : Nat := Try.f68.ntmps
noncomputable def Sk1 : Sk := ⟨[(0, .c (.ptr 5 0)), (1, .c (.flt .f32)), (5, .c (.flt .f32)), (6, .c (.int .i64))], sgA false, 6⟩
noncomputable def Se1 : Sk := ⟨[(0, .c (.ptr 5 0)), (1, .c (.flt .f32)), (5, .c (.flt .f32))], sgA false, 6⟩
noncomputable def SD1 (x : FD) (t : Nat) (k : Int) (s : Nat) : List LD := [.f t, .f s, .i k] ++ daA x
noncomputable def SE1 (x : FD) (t : Nat) (s : Nat) : List LD := [.f t, .f s] ++ daA x
noncomputable def Sg1 (O : FOps) (tt : Bool) (sk : Sk) (x : FD) (t : Nat) (k : Int) (s : Nat) : Option (Option XK × List LD × List Bool) := goL (cx0 O) NS ⟨hints [(16, tt)], fun _ => none⟩ (bodyOf Try.f68 3) 6 60 Sk1 [] sk (SD1 x t k s)
set_option maxRecDepth 100000 in
theorem Sa1 (O : FOps) (x : FD) (t : Nat) (k : Int) (s : Nat) : Sg1 O true Sk1 x t k s = some (none, SD1 x t (IntKind.i64.wrap (k + 1)) (f1S O x t k s), hd3 x.n2 k ++ g1S x k ++ fl4 x) := by kernel_rfl
set_option maxRecDepth 100000 in
theorem Sb1 (O : FOps) (x : FD) (t : Nat) (k : Int) (s : Nat) : Sg1 O false Se1 x t k s = some (some (.exit 0), SE1 x t s, [!decide (k < x.n2)] ++ fl4 x) := by kernel_rfl
theorem Sl1 (x : FD) (t : Nat) (hn : x.n2 ≤ 1048576) : ∀ (m : Nat) (k : Int) (s : Nat), 0 ≤ k → k + m = x.n2 → 
    Loops (cx0 fops) NS (fun _ => none) (bodyOf Try.f68 3) 6 60 Sk1 (SD1 x t k s) (.exit 0) Se1 (SE1 x t (foldFrom (f1S fops x t) k m s)) := by
  refine fold_loops (D := SD1 x t) (n := x.n2) (fun k s hk hlt => ?_) (fun s => ?_)
  · have r := Sa1 fops x t k s
    rw [wrap_succ hk (by omega)] at r
    exact .mk _ (ρ := []) r (AllT.app (AllT.app (hd3_ok hk hlt) (g1S_ok x hk hlt)) (fl4_ok x))
  · exact .mk _ (ρ := []) (Sb1 fops x t x.n2 s) (AllT.app (AllT.one' (by simp)) (fl4_ok x))
def SP1 (k N3 N2 N1 N0 n0 n1 n2 n3 : Int) (r0 r1 r2 r3 : Int → List SC) : Prop := k = 0 ∧ Okd N3 N2 N1 N0 n0 n1 n2 n3 r0 r1 r2 r3
noncomputable def SF1 (O : FOps) : List LD → Option (XO × List Bool)
  | [.f t, .f s, .i k, .i N3, .r r3, .i N2, .r r2, .i N1, .r r1, .i N0, .r r0, .i n0, .i n1, .i n2, .i n3] => some ([(.t, .exit 0, Se1, [.f t, .f (foldFrom (f1S O (mkFD r0 r1 r2 r3 n0 n1 n2 n3) t) 0 n2.toNat s)] ++ daR r0 r1 r2 r3 n0 n1 n2 n3)], [pB (SP1   k N3 N2 N1 N0 n0 n1 n2 n3 r0 r1 r2 r3)])
  | _ => none
noncomputable def SL1 (O : FOps) : List Ly → Top → Option Outs := orIter (cx0 O) NS (bodyOf Try.f68 3) (loopL NS 6 60 Sk1 [] (SF1 O))
set_option maxRecDepth 100000 in
theorem So1 : CodeOK Try.prog NS (.loop (bodyOf Try.f68 3)) (SL1 fops) := by
  refine orIter_ok (l := L0) okL0 mixed 8 (loopL_ok (cx := cx0 fops) (lp := fun _ => none) (fun ts => body_ok (l := L0) okL0 mixed 8 _ ts) fun p r hr hob => ?_)
  unfold SF1 at hr
  split at hr <;> cases hr
  rename_i t s k N3 r3 N2 r2 N1 r1 N0 r0 n0 n1 n2 n3
  obtain ⟨ek, eN0, eN1, eN2, eN3, b0, c0, b2, c2, b3, c3, s0, s1, s2, s3⟩ := pB_iff.1 hob.head
  rw [ek, eN0, eN1, eN2, eN3]
  have E := daA_eq (n0 := n0) (n1 := n1) (n2 := n2) (n3 := n3) s0 s1 s2 s3
  have h := Sl1 (mkFD r0 r1 r2 r3 n0 n1 n2 n3) t c2  (n2.toNat) 0 s (by decide) (by show (0 : Int) + (n2.toNat : Nat) = n2; omega)
  unfold SD1 at h
  unfold SE1 at h
  rw [E] at h
  exact ⟨.exit 0, Se1, _, rfl, h⟩
noncomputable def Sk2 : Sk := ⟨[(0, .c (.ptr 5 0)), (1, .c (.flt .f32)), (5, .c (.flt .f32)), (8, .c (.int .i64))], sgA false, 60⟩
noncomputable def Se2 : Sk := ⟨[(5, .c (.flt .f32))], [], 60⟩
noncomputable def SD2 (x : FD) (t : Nat) (k : Int) (s : Nat) : List LD := [.f t, .f s, .i k] ++ daA x
noncomputable def SE2 (x : FD) (t : Nat) (s : Nat) : List LD := [.f s]
noncomputable def Sg2 (O : FOps) (tt : Bool) (sk : Sk) (x : FD) (t : Nat) (k : Int) (s : Nat) : Option (Option XK × List LD × List Bool) := goL (cx0 O) NS ⟨hints [(51, tt)], fun _ => none⟩ (bodyOf Try.f68 9) 60 120 Sk2 [] sk (SD2 x t k s)
set_option maxRecDepth 100000 in
theorem Sa2 (O : FOps) (x : FD) (t : Nat) (k : Int) (s : Nat) : Sg2 O true Sk2 x t k s = some (none, SD2 x t (IntKind.i64.wrap (k + 1)) (f2S O x t k s), hd3 x.n3 k ++ g2S x k ++ fl4 x) := by kernel_rfl
set_option maxRecDepth 100000 in
theorem Sb2 (O : FOps) (x : FD) (t : Nat) (k : Int) (s : Nat) : Sg2 O false Se2 x t k s = some (some (.exit 2), SE2 x t s, [!decide (k < x.n3)]) := by kernel_rfl
theorem Sl2 (x : FD) (t : Nat) (hn : x.n3 ≤ 1048576) (hp : Pin x) : ∀ (m : Nat) (k : Int) (s : Nat), 0 ≤ k → k + m = x.n3 → 
    Loops (cx0 fops) NS (fun _ => none) (bodyOf Try.f68 9) 60 120 Sk2 (SD2 x t k s) (.exit 2) Se2 (SE2 x t (foldFrom (f2S fops x t) k m s)) := by
  refine fold_loops (D := SD2 x t) (n := x.n3) (fun k s hk hlt => ?_) (fun s => ?_)
  · have r := Sa2 fops x t k s
    rw [wrap_succ hk (by omega)] at r
    exact .mk _ (ρ := []) r (AllT.app (AllT.app (hd3_ok hk hlt) (g2S_ok hp hk hlt)) (fl4_ok x))
  · exact .mk _ (ρ := []) (Sb2 fops x t x.n3 s) (AllT.one' (by simp))
def SP2 (k N3 N2 N1 N0 n0 n1 n2 n3 : Int) (r0 r1 r2 r3 : Int → List SC) : Prop := k = 0 ∧ Pin (mkFD r0 r1 r2 r3 n0 n1 n2 n3) ∧ Okd N3 N2 N1 N0 n0 n1 n2 n3 r0 r1 r2 r3
noncomputable def SF2 (O : FOps) : List LD → Option (XO × List Bool)
  | [.f t, .f s, .i k, .i N3, .r r3, .i N2, .r r2, .i N1, .r r1, .i N0, .r r0, .i n0, .i n1, .i n2, .i n3] => some ([(.t, .exit 2, Se2, [.f (foldFrom (f2S O (mkFD r0 r1 r2 r3 n0 n1 n2 n3) t) 0 n3.toNat s)])], [pB (SP2   k N3 N2 N1 N0 n0 n1 n2 n3 r0 r1 r2 r3)])
  | _ => none
noncomputable def SL2 (O : FOps) : List Ly → Top → Option Outs := orIter (cx0 O) NS (bodyOf Try.f68 9) (loopL NS 60 120 Sk2 [] (SF2 O))
set_option maxRecDepth 100000 in
theorem So2 : CodeOK Try.prog NS (.loop (bodyOf Try.f68 9)) (SL2 fops) := by
  refine orIter_ok (l := L0) okL0 mixed 8 (loopL_ok (cx := cx0 fops) (lp := fun _ => none) (fun ts => body_ok (l := L0) okL0 mixed 8 _ ts) fun p r hr hob => ?_)
  unfold SF2 at hr
  split at hr <;> cases hr
  rename_i t s k N3 r3 N2 r2 N1 r1 N0 r0 n0 n1 n2 n3
  obtain ⟨ek, hp, eN0, eN1, eN2, eN3, b0, c0, b2, c2, b3, c3, s0, s1, s2, s3⟩ := pB_iff.1 hob.head
  rw [ek, eN0, eN1, eN2, eN3]
  have E := daA_eq (n0 := n0) (n1 := n1) (n2 := n2) (n3 := n3) s0 s1 s2 s3
  have h := Sl2 (mkFD r0 r1 r2 r3 n0 n1 n2 n3) t c3 hp (n3.toNat) 0 s (by decide) (by show (0 : Int) + (n3.toNat : Nat) = n3; omega)
  unfold SD2 at h
  skip
  rw [E] at h
  exact ⟨.exit 2, Se2, _, rfl, h⟩
set_option maxRecDepth 100000 in
theorem Sc : CallOK Try.prog 68 (inl (cx0 fops) Try.f68 ⟨fun _ => none, lpOf [(3, SL1 fops), (9, SL2 fops)]⟩) := by
  have hb : Try.f68.body.isSome = true := by kernel_rfl
  obtain ⟨c, hc⟩ := Option.isSome_iff_exists.1 hb
  have h1 : (match Try.f68.body with | some c => onceB (loopsIn c) && ((match loopAt 3 (loopsIn c) with | some _ => true | none => false) && (match loopAt 9 (loopsIn c) with | some _ => true | none => false)) | none => false) = true := by kernel_rfl
  rw [hc] at h1
  simp only [Bool.and_eq_true] at h1
  exact inlL_of (l := L0) (ls := [(3, SL1 fops), (9, SL2 fops)]) okL0 mixed 8 Try.func68 (by kernel_rfl) (fun _ => none) hc h1.1 ⟨⟨_, bodyOf_at hc h1.2.1, So1⟩, ⟨_, bodyOf_at hc h1.2.2, So2⟩, trivial⟩
end
end Go.Proofs.Ytopliajfonpbcaa.Los0
