/- The law of AirOf: what its text computes, with any number of logs. Nothing is assumed. -/
import Derived.Test.YtngdmcbjponlhaaStw
namespace Go.Proofs.Ytngdmcbjponlhaa.Sta
open Go SlWood Stv Stw
noncomputable section
/-- What a law of a stove asks for; 'g': the answers differ. -/
def obsG (g : Bool) (O : FOps) (F : Nat → Int → Nat) (G : Nat → Int → Int) (n : Int) (a b : Nat) (s t : Int) (c : Nat) : List Bool :=
  [!decide (lf n < 0), flatR (Row F G), flatR (R' F G n)] ++ obT F G n ++
  gd (bad O n a b s t c) [flatR (R' F G n), pB (PreS n n 0 n n (R' F G n))] ++ [flatR (Row F G), flatR (R' F G n)] ++ obT F G n ++
  gd (decide (6 < n)) [flatR (R' F G n), pB (PreI n n 0 n n (R' F G n))] ++
  gd g ([flatR (Row F G), flatR (R' F G n)] ++ obT F G n ++ [flatR (R' F G n)] ++
    gd (!decide (n = n)) [flatR (R' F G n), flatR (R' F G n), pB (PreQ n n 0 n (R' F G n) n (R' F G n))])
theorem obsG_ok (g : Bool) (F : Nat → Int → Nat) (G : Nat → Int → Int) {n : Int} (h0 : 0 ≤ n) (h1 : n ≤ 1048576) (a b : Nat) (s t : Int) (c : Nat) : AllT (obsG g fops F G n a b s t c) := by
  have f1 : flatR (Row F G) = true := rowK_flat _ _ _
  have f2 : flatR (R' F G n) = true := rowK_flat _ _ _
  have hs : Shape ts (R' F G n) := shape_row _ _
  unfold obsG
  refine AllT.app (AllT.app (AllT.app (AllT.app (AllT.app (AllT.app ?_ (obT_ok F G h0 h1)) ?_) ?_) (obT_ok F G h0 h1)) ?_) ?_
  · exact AllT.cons (by rw [lf_small h0 h1]; rfl) (AllT.cons f1 (AllT.cons f2 AllT.nil))
  · exact gd_ok (AllT.cons f2 (AllT.cons (pB_iff.2 ⟨rfl, rfl, rfl, rfl, h0, h1, hs⟩) AllT.nil))
  · exact AllT.cons f1 (AllT.cons f2 AllT.nil)
  · exact gd_ok (AllT.cons f2 (AllT.cons (pB_iff.2 ⟨rfl, rfl, rfl, rfl, h0, h1, hs⟩) AllT.nil))
  · refine gd_ok (AllT.app (AllT.app (AllT.app (AllT.cons f1 (AllT.cons f2 AllT.nil)) (obT_ok F G h0 h1)) (AllT.cons f2 AllT.nil)) (gd_ok (AllT.cons f2 (AllT.cons f2 (AllT.cons (pB_iff.2 ⟨rfl, rfl, rfl, rfl, h0, h1, hs, hs⟩) AllT.nil)))))
def aI (O : FOps) (b d : Nat) : Nat := bif O.cmp .gtr .f32 (O.bin .mul .f32 b d) 1065353216 then 1065353216 else O.bin .mul .f32 b d
def aS (O : FOps) (b d : Nat) : Nat := bif O.cmp .lss .f32 1065353216 (O.bin .mul .f32 b d) then 1065353216 else O.bin .mul .f32 b d
def airI (O : FOps) (s : Int) (x : Nat) : Nat := bif decide (s = 0) then 0 else bif !decide (s = 0) && decide (s = 1) then O.bin .mul .f32 x 1056964608 else bif !decide (s = 0) && (!decide (s = 1) && decide (s = 3)) then O.bin .mul .f32 x 1048576000 else x
def airS (O : FOps) (s : Int) (x : Nat) : Nat := bif decide (s = 1) then O.bin .mul .f32 x 1056964608 else bif !decide (s = 1) && decide (s = 3) then O.bin .mul .f32 x 1048576000 else bif !decide (s = 1) && (!decide (s = 3) && decide (s = 0)) then 0 else x
def ou (v : Bool) (d x : Nat) : Nat := bif !v then 0 else bif !decide (d < 2139095040) then 0 else x
def cd (v : Bool) (d : Nat) : Int := bif !v then 1 else bif !decide (d < 2139095040) then 2 else 0
/-- The answers differ. -/
def dif (O : FOps) (v w : Bool) (b : Nat) (s : Int) (d : Nat) : Bool := bif !sf O (O.conv .f32 .f64 (ou v d (airI O s (aI O b d)))) (O.conv .f32 .f64 (ou w d (airS O s (aS O b d)))) then true else bif decide (cd v d = cd w d) then false else true
theorem a_eq (b d : Nat) : aS fops b d = aI fops b d := by
  unfold aS aI
  rw [cmp_lss, cmp_gtr]
  rw [Bool.and_comm (!nanb .f32 1065353216)]
theorem air_eq (O : FOps) (s : Int) (x : Nat) : airS O s x = airI O s x := by
  unfold airS airI
  by_cases h0 : s = 0
  · subst h0; rfl
  · by_cases h1 : s = 1
    · subst h1; rfl
    · by_cases h3 : s = 3
      · subst h3; rfl
      · simp [h0, h1, h3]
theorem dif_false (v : Bool) (b : Nat) (s : Int) (d : Nat) : dif fops v v b s d = false := by
  unfold dif
  rw [a_eq, air_eq, sf_self]
  simp
def runA (O : FOps) (vl : (Nat → Nat) → Bool) (h : Bool) (F : Nat → Int → Nat) (G : Nat → Int → Int) (n : Int) (a b : Nat) (s t : Int) (c d : Nat) : Option (SV × List Bool) :=
  rE 2 (inl ⟨Try.prog, O, orcN Try.prog O (LW O vl) 8⟩ Try.f7 ⟨fun t => bif Nat.beq t 15 then some h else none, fun _ => none⟩ 2 [stA n a b s t c, .c (.flt .f32 d)] [(1, ⟨false, false, .rows 18 n (Row F G)⟩)])
def dd (O : FOps) (vl : (Nat → Nat) → Bool) (F : Nat → Int → Nat) (G : Nat → Int → Int) (n : Int) (a b : Nat) (s t : Int) (c d : Nat) : Bool := dif O (vI O (Q1 vl F G n) n a b s t c) (vS O (Q1 vl F G n) n a b s t c) b s d
set_option maxRecDepth 100000 in
theorem runA_big (O : FOps) (vl : (Nat → Nat) → Bool) (F : Nat → Int → Nat) (G : Nat → Int → Int) (n : Int) (a b : Nat) (s t : Int) (c d : Nat) : runA O vl true F G n a b s t c d = some (.c (.bool .t), [decide (lf n < 0)]) := by kernel_rfl
set_option maxRecDepth 100000 in
theorem runA_val (O : FOps) (vl : (Nat → Nat) → Bool) (F : Nat → Int → Nat) (G : Nat → Int → Int) (n : Int) (a b : Nat) (s t : Int) (c d : Nat) : (runA O vl false F G n a b s t c d).map (·.1) =
    some (.c (.bool (.s (bif dd O vl F G n a b s t c d then false else bif !eqV O (Q2 O F G n) n a b s t c then false else true)))) := by kernel_rfl
set_option maxRecDepth 100000 in
theorem runA_obs (O : FOps) (vl : (Nat → Nat) → Bool) (F : Nat → Int → Nat) (G : Nat → Int → Int) (n : Int) (a b : Nat) (s t : Int) (c d : Nat) : (match runA O vl false F G n a b s t c d with | some r => r.2 | none => []) = obsG (dd O vl F G n a b s t c d) O F G n a b s t c := by kernel_rfl
def BA (Q q2 : Bool) (n : Int) (a b : Nat) (s t : Int) (c d : Nat) : Bool := bif dif fops (vI fops Q n a b s t c) (vS fops Q n a b s t c) b s d then false else bif !eqV fops q2 n a b s t c then false else true
theorem BA_true (Q : Bool) {q2 : Bool} (hq : q2 = true) (n : Int) (a b : Nat) {s : Int} (hs : -128 ≤ s ∧ s ≤ 127) (t : Int) (c d : Nat) : BA Q q2 n a b s t c d = true := by
  unfold BA
  rw [v_eq Q n a b hs, eqV_true hq, dif_false]
  rfl
theorem run_allA (F : Nat → Int → Nat) (G : Nat → Int → Int) (n : Int) (a b : Nat) (s t : Int) (c d : Nat) : runA fops valid false F G n a b s t c d = some (.c (.bool (.s (BA (Q1 valid F G n) (Q2 fops F G n) n a b s t c d))), obsG (dd fops valid F G n a b s t c d) fops F G n a b s t c) := by
  have h1 := runA_val fops valid F G n a b s t c d
  have h2 := runA_obs fops valid F G n a b s t c d
  cases h : runA fops valid false F G n a b s t c d with
  | none => rw [h] at h1; cases h1
  | some r =>
    rw [h] at h1 h2
    obtain ⟨r1, r2⟩ := r
    have h1' : r1 = _ := Option.some.inj h1
    have h2' : r2 = _ := h2
    rw [h1', h2']
    rfl
def run0A (O : FOps) (a b : Nat) (s t : Int) (c d : Nat) : Option (SV × List Bool) :=
  rE 2 (inl ⟨Try.prog, O, orcN Try.prog O (L0 O) 8⟩ Try.f7 ⟨fun _ => none, fun _ => none⟩ 2 [.a [.sl 1 0 18 (.c 0) false, .flt .f32 a, .flt .f32 b, .int .i8 (.s s), .int .i64 (.s t), .flt .f32 c], .c (.flt .f32 d)] [])
set_option maxRecDepth 100000 in
theorem run0A_eq (O : FOps) (a b : Nat) (s t : Int) (c d : Nat) : run0A O a b s t c d =
    some (.c (.bool (.s (bif dif O (vI O true 0 a b s t c) (vS O true 0 a b s t c) b s d then false else bif !eqV O true 0 a b s t c then false else true))), []) := by kernel_rfl
end
end Go.Proofs.Ytngdmcbjponlhaa.Sta
