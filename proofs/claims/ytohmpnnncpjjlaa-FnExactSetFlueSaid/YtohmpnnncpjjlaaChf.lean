/- The law SetFlue: what its text computes, with any number of flues. Nothing is assumed. -/
import Derived.Test.YtohmpnnncpjjlaaChl
namespace Go.Proofs.Ytohmpnnncpjjlaa.Chf
open Go SlFlue Chy Chs Chl
noncomputable section
abbrev HH := List (Nat × Bool) × List (Nat × Bool)
noncomputable def hOK : HH := ([(10, false), (23, false)], [(10, false), (22, false)])
noncomputable def hE1 : HH := ([(10, true)], [(10, true)])
noncomputable def hE2 : HH := ([(10, false), (23, true)], [(10, false), (22, true)])
noncomputable def hLaw : List (Nat × Bool) := [(22, false), (48, false), (53, false), (69, false), (77, false), (80, false), (97, false), (102, false), (105, false)]
noncomputable def cIh (O : FOps) (h : HH) : CS := inl (cxW O) Try.f38 ⟨hint h.1, fun _ => none⟩
noncomputable def cSh (O : FOps) (h : HH) : CS := inl (cxW O) Try.f37 ⟨hint h.2, fun _ => none⟩
noncomputable def L3 (O : FOps) (h : HH) : List (Nat × CS) := (38, cIh O h) :: (37, cSh O h) :: LW O
set_option maxRecDepth 100000 in
theorem okL3 (h : HH) : AllOK Try.prog (L3 fops h) :=
  ⟨inlN_of (l := LW fops) okLW mixed 8 Try.func38 (by kernel_rfl) _, inlN_of (l := LW fops) okLW mixed 8 Try.func37 (by kernel_rfl) _, okLW⟩
noncomputable def run (O : FOps) (h : HH) (hl : List (Nat × Bool)) (v : SV) (rd : List (Nat × Seg)) (x : Int) (d : Nat) : Option (SV × List Bool) :=
  rE 2 (inl ⟨Try.prog, O, orcN Try.prog O (L3 O h) 8⟩ Try.f12 ⟨hint hl, fun _ => none⟩ 2 [v, .c (.int .i64 (.s x)), .c (.flt .f32 d)] rd)
noncomputable def shr (O : FOps) (d : Nat) : Bool := bif decide (d < 2139095040) then O.cmp .leq .f32 d 1065353216 else false
noncomputable def rI (O : FOps) (n x : Int) (d : Nat) : Bool := bif decide (x < 0) then true else bif decide (n ≤ x) then true else !shr O d
noncomputable def rS (O : FOps) (n x : Int) (d : Nat) : Bool := bif !inS n x then true else !shr O d
theorem r_eq {n : Int} (h0 : 0 ≤ n) (h1 : n ≤ 1048576) (O : FOps) (x : Int) (d : Nat) : rS O n x d = rI O n x d := by
  unfold rS rI
  rw [inS_eq h0 h1]
  cases decide (x < 0) <;> cases decide (n ≤ x) <;> rfl
theorem rI_false {O : FOps} {n x : Int} {d : Nat} (h : rI O n x d = false) : 0 ≤ x ∧ x < n := by
  unfold rI at h
  by_cases h1 : x < 0
  · rw [decide_eq_true h1] at h; cases h
  · by_cases h2 : n ≤ x
    · rw [decide_eq_false h1, decide_eq_true h2] at h; cases h
    · omega
noncomputable def obGz (O : FOps) (F : Nat → Int → Nat) (G : Nat → Int → Int) (n : Int) (Ss Si : List Bool) (E : Bool) : List Bool :=
  [!decide (lf n < 0)] ++ (oC F G n ++ Ss) ++ (oC F G n ++ Si) ++ oC F G n ++ oE n (R1 F G n) (R1 F G n) ++ [!!E] ++ oM O n (R1 F G n) ++ [!(bif ng n then true else false)] ++ (oC F G n ++ Si)
theorem obGz_ok (F : Nat → Int → Nat) (G : Nat → Int → Int) {n : Int} (h0 : 0 ≤ n) (h1 : n ≤ 1048576) {Ss Si : List Bool} (hs : AllT Ss) (hi : AllT Si) {E : Bool} (hE : E = true) : AllT (obGz fops F G n Ss Si E) := by
  have c := oC_ok F G h0 h1
  have x := oE_ok (r1_shape F G n) (r1_shape F G n) h0 h1
  have m := oM_ok (r1_shape F G n) h0 h1
  unfold obGz
  rw [hE, lf_small h0 h1, ng_false h0]
  simp only [AllT.iff_app]
  exact ⟨⟨⟨⟨⟨⟨⟨⟨AllT.one rfl, c, hs⟩, c, hi⟩, c⟩, x⟩, AllT.one rfl⟩, m⟩, AllT.one rfl⟩, c, hi⟩
/-- The rows, with one damper set. -/
noncomputable def kR (R : Int → List SC) (x : Int) (d : Nat) : Int → List SC := putR R x 3 [.flt .f32 d]
noncomputable def sOK (O : FOps) (r : Bool) (R : Int → List SC) (n x : Int) : List Bool := oVc n R ++ [!!vC O n R, !r] ++ oA n ++ [bnd n x, bnd n x]
noncomputable def tOK (E : Bool) : Bool := bif !E then true else false
set_option maxRecDepth 100000 in
theorem run_ok (O : FOps) (F : Nat → Int → Nat) (G : Nat → Int → Int) (n x : Int) (d : Nat) :
    run O hOK hLaw (chA 1 n) [(1, ⟨false, false, .rows 5 n (Row F G)⟩)] x d = some (.c (.bool .t), obG O F G n (sOK O (rS O n x d) (R1 F G n) n x) (sOK O (rI O n x d) (R1 F G n) n x) n (kR (R1 F G n) x d) (kR (R1 F G n) x d) (tOK (eqR O n n (kR (R1 F G n) x d) (kR (R1 F G n) x d))) (eqR O n n (R1 F G n) (R1 F G n))) := by kernel_rfl
set_option maxRecDepth 100000 in
theorem run_e1 (O : FOps) (F : Nat → Int → Nat) (G : Nat → Int → Int) (n x : Int) (d : Nat) :
    run O hE1 hLaw (chA 1 n) [(1, ⟨false, false, .rows 5 n (Row F G)⟩)] x d = some (.c (.bool .t), obGz O F G n (oVc n (R1 F G n) ++ [!vC O n (R1 F G n)]) (oVc n (R1 F G n) ++ [!vC O n (R1 F G n)]) (eqR O n n (R1 F G n) (R1 F G n))) := by kernel_rfl
set_option maxRecDepth 100000 in
theorem run_e2 (O : FOps) (F : Nat → Int → Nat) (G : Nat → Int → Int) (n x : Int) (d : Nat) :
    run O hE2 hLaw (chA 1 n) [(1, ⟨false, false, .rows 5 n (Row F G)⟩)] x d = some (.c (.bool .t), obGz O F G n (oVc n (R1 F G n) ++ [!!vC O n (R1 F G n), rS O n x d]) (oVc n (R1 F G n) ++ [!!vC O n (R1 F G n), rI O n x d]) (eqR O n n (R1 F G n) (R1 F G n))) := by kernel_rfl
set_option maxRecDepth 100000 in
theorem run_big (O : FOps) (F : Nat → Int → Nat) (G : Nat → Int → Int) (n x : Int) (d : Nat) :
    run O hOK [(22, true)] (chA 1 n) [(1, ⟨false, false, .rows 5 n (Row F G)⟩)] x d = some (.c (.bool .t), [decide (lf n < 0)]) := by kernel_rfl
set_option maxRecDepth 100000 in
theorem run0_e (O : FOps) (x : Int) (d : Nat) : run O hE1 hLaw (ch0 1) [] x d = some (.c (.bool .t), []) := by kernel_rfl
set_option maxRecDepth 100000 in
theorem kR_shape {R : Int → List SC} (h : Shape ts R) (x : Int) (d : Nat) : Shape ts (kR R x d) := by
  rw [h]
  funext j
  kernel_rfl
theorem law_all (F : Nat → Int → Nat) (G : Nat → Int → Int) {n : Int} (h0 : 0 ≤ n) (hmax : n ≤ 9223372036854775807) (x : Int) (d : Nat) :
    ∃ h hl ob, run fops h hl (chA 1 n) [(1, ⟨false, false, .rows 5 n (Row F G)⟩)] x d = some (.c (.bool .t), ob) ∧ AllT ob := by
  by_cases hbig : 1048576 < n
  · exact ⟨_, _, _, run_big fops F G n x d, AllT.one (lf_big hbig hmax)⟩
  · have h1 : n ≤ 1048576 := by omega
    have hv := oVc_ok (r1_shape F G n) h0 h1
    have hr := r_eq h0 h1 fops x d
    cases hV : vC fops n (R1 F G n) with
    | false =>
      have hS : AllT (oVc n (R1 F G n) ++ [!vC fops n (R1 F G n)]) := AllT.app hv (AllT.one (by rw [hV]; rfl))
      exact ⟨_, _, _, run_e1 fops F G n x d, obGz_ok F G h0 h1 hS hS (eqR_self _ _)⟩
    | true =>
      cases hd : rI fops n x d with
      | true =>
        have hS : ∀ r, r = true → AllT (oVc n (R1 F G n) ++ [!!vC fops n (R1 F G n), r]) := fun r e => AllT.app hv (AllT.cons (by rw [hV]; rfl) (AllT.one e))
        exact ⟨_, _, _, run_e2 fops F G n x d, obGz_ok F G h0 h1 (hS _ (hr.trans hd)) (hS _ hd) (eqR_self _ _)⟩
      | false =>
        have hb := rI_false hd
        have h6 := vC_six hV
        have hS : ∀ r, r = false → AllT (sOK fops r (R1 F G n) n x) := fun r e => by
          unfold sOK
          rw [hV, e]
          exact AllT.app (AllT.app (AllT.app hv (AllT.cons rfl (AllT.one rfl))) (oA_ok h0 h6.2)) (AllT.cons (bnd_ok hb.1 hb.2) (AllT.one (bnd_ok hb.1 hb.2)))
        have hk := kR_shape (r1_shape F G n) x d
        exact ⟨_, _, _, run_ok fops F G n x d, obG_ok F G h0 h1 (hS _ (hr.trans hd)) (hS _ hd) h0 h1 hk hk (by unfold tOK; rw [eqR_self]; rfl) (eqR_self _ _)⟩
end
end Go.Proofs.Ytohmpnnncpjjlaa.Chf
