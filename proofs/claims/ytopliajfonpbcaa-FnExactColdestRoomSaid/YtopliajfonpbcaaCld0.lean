/- The coldest room: the loops. Nothing is assumed. -/
import Derived.Test.YtopliajfonpbcaaFld
namespace Go.Proofs.Ytopliajfonpbcaa.Cld
open Go Fla
noncomputable section
def LV (O : FOps) : List (Nat × CS) := (28, vIC O) :: (58, vSC O) :: L0
set_option maxRecDepth 100000 in
theorem okLV : AllOK Try.prog (LV fops) := ⟨cVI, cVS, okL0⟩
def cxV (O : FOps) : Cx := ⟨Try.prog, O, orcN Try.prog O (LV O) 8⟩
def fc (O : FOps) (x : FD) (k : Int) (s : Int) : Int := bif O.cmp .lss .f32 (x.F0 0 k) (x.F0 0 s) then k else s
theorem fc_in {x : FD} {k s : Int} (hk : 0 ≤ k) (hlt : k < x.n0) (hi : 0 ≤ s ∧ s < x.n0) : 0 ≤ fc fops x k s ∧ fc fops x k s < x.n0 := by
  unfold fc
  cases fops.cmp .lss .f32 (x.F0 0 k) (x.F0 0 s)
  · exact hi
  · exact ⟨hk, hlt⟩
/-! ### impl.ColdestRoom -/
noncomputable def NI : Nat := Try.f30.ntmps
noncomputable def Ik1 : Sk := ⟨[(1, .c (.ptr 5 0)), (4, .c (.int .i64)), (11, .c (.sl 4 0 1 false)), (12, .c (.int .i64)), (13, .c (.int .i64))], sgA true, 181⟩
noncomputable def Ie1 : Sk := ⟨[(4, .c (.int .i64))], [], 181⟩
noncomputable def ID1 (x : FD)  (k : Int) (s : Int) : List LD := [.i s, .i x.n0, .i x.n0, .i k] ++ daA x
noncomputable def IE1 (x : FD)  (s : Int) : List LD := [.i s]
noncomputable def Ig1 (O : FOps) (tt : Bool) (sk : Sk) (x : FD)  (k : Int) (s : Int) : Option (Option XK × List LD × List Bool) := goL (cxV O) NI ⟨hints [(14, tt)], fun _ => none⟩ (bodyOf Try.f30 5) 181 241 Ik1 [] sk (ID1 x  k s)
set_option maxRecDepth 100000 in
theorem Ia1 (O : FOps) (x : FD)  (k : Int) (s : Int) : Ig1 O true Ik1 x  k s = some (none, ID1 x  (IntKind.i64.wrap (k + 1)) (fc O x  k s), hd3 x.n0 k ++ [bd x.n0 s, bd x.n0 s] ++ fl4 x) := by kernel_rfl
set_option maxRecDepth 100000 in
theorem Ib1 (O : FOps) (x : FD)  (k : Int) (s : Int) : Ig1 O false Ie1 x  k s = some (some (.exit 0), IE1 x  s, [!decide (k < x.n0)]) := by kernel_rfl
theorem Il1 (x : FD)  (hn : x.n0 ≤ 1048576) : ∀ (m : Nat) (k : Int) (s : Int), 0 ≤ k → k + m = x.n0 → (0 ≤ s ∧ s < x.n0) → 
    Loops (cxV fops) NI (fun _ => none) (bodyOf Try.f30 5) 181 241 Ik1 (ID1 x  k s) (.exit 0) Ie1 (IE1 x  (foldFrom (fc fops x ) k m s)) := by
  refine fold_loopsI (D := ID1 x ) (n := x.n0) (fun k s => 0 ≤ s ∧ s < x.n0) (fun k s hk hlt hi => ?_) (fun k s hk hlt hi => ?_) (fun s => ?_)
  · exact fc_in hk hlt hi
  · have r := Ia1 fops x  k s
    rw [wrap_succ hk (by omega)] at r
    exact .mk _ (ρ := []) r (AllT.app (AllT.app (hd3_ok hk hlt) (AllT.cons (bd_ok hi.1 hi.2) (AllT.one' (bd_ok hi.1 hi.2)))) (fl4_ok x))
  · exact .mk _ (ρ := []) (Ib1 fops x  x.n0 s) (AllT.one' (by simp))
def IP1 (s l1 l2 : Int) (k N3 N2 N1 N0 n0 n1 n2 n3 : Int) (r0 r1 r2 r3 : Int → List SC) : Prop := s = 0 ∧ l1 = n0 ∧ l2 = n0 ∧ k = 0 ∧ 0 < n0 ∧ Okd N3 N2 N1 N0 n0 n1 n2 n3 r0 r1 r2 r3
noncomputable def IF1 (O : FOps) : List LD → Option (XO × List Bool)
  | [.i s, .i l1, .i l2, .i k, .i N3, .r r3, .i N2, .r r2, .i N1, .r r1, .i N0, .r r0, .i n0, .i n1, .i n2, .i n3] => some ([(.t, .exit 0, Ie1, [.i (foldFrom (fc O (mkFD r0 r1 r2 r3 n0 n1 n2 n3) ) 0 n0.toNat s)])], [pB (IP1 s l1 l2  k N3 N2 N1 N0 n0 n1 n2 n3 r0 r1 r2 r3)])
  | _ => none
noncomputable def IL1 (O : FOps) : List Ly → Top → Option Outs := orIter (cxV O) NI (bodyOf Try.f30 5) (loopL NI 181 241 Ik1 [] (IF1 O))
set_option maxRecDepth 100000 in
theorem Io1 : CodeOK Try.prog NI (.loop (bodyOf Try.f30 5)) (IL1 fops) := by
  refine orIter_ok (l := (LV fops)) okLV mixed 8 (loopL_ok (cx := cxV fops) (lp := fun _ => none) (fun ts => body_ok (l := (LV fops)) okLV mixed 8 _ ts) fun p r hr hob => ?_)
  unfold IF1 at hr
  split at hr <;> cases hr
  rename_i s l1 l2 k N3 r3 N2 r2 N1 r1 N0 r0 n0 n1 n2 n3
  obtain ⟨e0, e1, e2, ek, hp, eN0, eN1, eN2, eN3, b0, c0, b2, c2, b3, c3, s0, s1, s2, s3⟩ := pB_iff.1 hob.head
  rw [e0, e1, e2, ek, eN0, eN1, eN2, eN3]
  have E := daA_eq (n0 := n0) (n1 := n1) (n2 := n2) (n3 := n3) s0 s1 s2 s3
  have h := Il1 (mkFD r0 r1 r2 r3 n0 n1 n2 n3)  c0  (n0.toNat) 0 0 (by decide) (by show (0 : Int) + (n0.toNat : Nat) = n0; omega) ⟨Int.le_refl _, hp⟩
  unfold ID1 at h
  skip
  rw [E] at h
  exact ⟨.exit 0, Ie1, _, rfl, h⟩
set_option maxRecDepth 100000 in
theorem Ic : CallOK Try.prog 30 (inl (cxV fops) Try.f30 ⟨fun _ => none, lpOf [(5, IL1 fops)]⟩) := by
  have hb : Try.f30.body.isSome = true := by kernel_rfl
  obtain ⟨c, hc⟩ := Option.isSome_iff_exists.1 hb
  have h1 : (match Try.f30.body with | some c => onceB (loopsIn c) && (match loopAt 5 (loopsIn c) with | some _ => true | none => false) | none => false) = true := by kernel_rfl
  rw [hc] at h1
  simp only [Bool.and_eq_true] at h1
  exact inlL_of (l := (LV fops)) (ls := [(5, IL1 fops)]) okLV mixed 8 Try.func30 (by kernel_rfl) (fun _ => none) hc h1.1 ⟨⟨_, bodyOf_at hc h1.2, Io1⟩, trivial⟩
/-! ### spec.ColdestRoom -/
noncomputable def NS : Nat := Try.f29.ntmps
noncomputable def Sk1 : Sk := ⟨[(1, .c (.ptr 5 0)), (4, .c (.int .i64)), (5, .c (.int .i64))], sgA true, 180⟩
noncomputable def Se1 : Sk := ⟨[(4, .c (.int .i64))], [], 180⟩
noncomputable def SD1 (x : FD)  (k : Int) (s : Int) : List LD := [.i s, .i k] ++ daA x
noncomputable def SE1 (x : FD)  (s : Int) : List LD := [.i s]
noncomputable def Sg1 (O : FOps) (tt : Bool) (sk : Sk) (x : FD)  (k : Int) (s : Int) : Option (Option XK × List LD × List Bool) := goL (cxV O) NS ⟨hints [(12, tt)], fun _ => none⟩ (bodyOf Try.f29 5) 180 240 Sk1 [] sk (SD1 x  k s)
set_option maxRecDepth 100000 in
theorem Sa1 (O : FOps) (x : FD)  (k : Int) (s : Int) : Sg1 O true Sk1 x  k s = some (none, SD1 x  (IntKind.i64.wrap (k + 1)) (fc O x  k s), hd3 x.n0 k ++ [bd x.n0 s, bd x.n0 s] ++ fl4 x) := by kernel_rfl
set_option maxRecDepth 100000 in
theorem Sb1 (O : FOps) (x : FD)  (k : Int) (s : Int) : Sg1 O false Se1 x  k s = some (some (.exit 0), SE1 x  s, [!decide (k < x.n0)]) := by kernel_rfl
theorem Sl1 (x : FD)  (hn : x.n0 ≤ 1048576) : ∀ (m : Nat) (k : Int) (s : Int), 0 ≤ k → k + m = x.n0 → (0 ≤ s ∧ s < x.n0) → 
    Loops (cxV fops) NS (fun _ => none) (bodyOf Try.f29 5) 180 240 Sk1 (SD1 x  k s) (.exit 0) Se1 (SE1 x  (foldFrom (fc fops x ) k m s)) := by
  refine fold_loopsI (D := SD1 x ) (n := x.n0) (fun k s => 0 ≤ s ∧ s < x.n0) (fun k s hk hlt hi => ?_) (fun k s hk hlt hi => ?_) (fun s => ?_)
  · exact fc_in hk hlt hi
  · have r := Sa1 fops x  k s
    rw [wrap_succ hk (by omega)] at r
    exact .mk _ (ρ := []) r (AllT.app (AllT.app (hd3_ok hk hlt) (AllT.cons (bd_ok hi.1 hi.2) (AllT.one' (bd_ok hi.1 hi.2)))) (fl4_ok x))
  · exact .mk _ (ρ := []) (Sb1 fops x  x.n0 s) (AllT.one' (by simp))
def SP1 (s : Int) (k N3 N2 N1 N0 n0 n1 n2 n3 : Int) (r0 r1 r2 r3 : Int → List SC) : Prop := s = 0 ∧ k = 1 ∧ 0 < n0 ∧ Okd N3 N2 N1 N0 n0 n1 n2 n3 r0 r1 r2 r3
noncomputable def SF1 (O : FOps) : List LD → Option (XO × List Bool)
  | [.i s, .i k, .i N3, .r r3, .i N2, .r r2, .i N1, .r r1, .i N0, .r r0, .i n0, .i n1, .i n2, .i n3] => some ([(.t, .exit 0, Se1, [.i (foldFrom (fc O (mkFD r0 r1 r2 r3 n0 n1 n2 n3) ) 1 (n0 - 1).toNat s)])], [pB (SP1 s  k N3 N2 N1 N0 n0 n1 n2 n3 r0 r1 r2 r3)])
  | _ => none
noncomputable def SL1 (O : FOps) : List Ly → Top → Option Outs := orIter (cxV O) NS (bodyOf Try.f29 5) (loopL NS 180 240 Sk1 [] (SF1 O))
set_option maxRecDepth 100000 in
theorem So1 : CodeOK Try.prog NS (.loop (bodyOf Try.f29 5)) (SL1 fops) := by
  refine orIter_ok (l := (LV fops)) okLV mixed 8 (loopL_ok (cx := cxV fops) (lp := fun _ => none) (fun ts => body_ok (l := (LV fops)) okLV mixed 8 _ ts) fun p r hr hob => ?_)
  unfold SF1 at hr
  split at hr <;> cases hr
  rename_i s k N3 r3 N2 r2 N1 r1 N0 r0 n0 n1 n2 n3
  obtain ⟨e0, ek, hp, eN0, eN1, eN2, eN3, b0, c0, b2, c2, b3, c3, s0, s1, s2, s3⟩ := pB_iff.1 hob.head
  rw [e0, ek, eN0, eN1, eN2, eN3]
  have E := daA_eq (n0 := n0) (n1 := n1) (n2 := n2) (n3 := n3) s0 s1 s2 s3
  have h := Sl1 (mkFD r0 r1 r2 r3 n0 n1 n2 n3)  c0  ((n0 - 1).toNat) 1 0 (by decide) (by show (1 : Int) + ((n0 - 1).toNat : Nat) = n0; omega) ⟨Int.le_refl _, hp⟩
  unfold SD1 at h
  skip
  rw [E] at h
  exact ⟨.exit 0, Se1, _, rfl, h⟩
set_option maxRecDepth 100000 in
theorem Sc : CallOK Try.prog 29 (inl (cxV fops) Try.f29 ⟨fun _ => none, lpOf [(5, SL1 fops)]⟩) := by
  have hb : Try.f29.body.isSome = true := by kernel_rfl
  obtain ⟨c, hc⟩ := Option.isSome_iff_exists.1 hb
  have h1 : (match Try.f29.body with | some c => onceB (loopsIn c) && (match loopAt 5 (loopsIn c) with | some _ => true | none => false) | none => false) = true := by kernel_rfl
  rw [hc] at h1
  simp only [Bool.and_eq_true] at h1
  exact inlL_of (l := (LV fops)) (ls := [(5, SL1 fops)]) okLV mixed 8 Try.func29 (by kernel_rfl) (fun _ => none) hc h1.1 ⟨⟨_, bodyOf_at hc h1.2, So1⟩, trivial⟩
end
end Go.Proofs.Ytopliajfonpbcaa.Cld
