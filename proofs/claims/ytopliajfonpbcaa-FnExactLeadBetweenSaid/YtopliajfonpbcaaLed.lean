/- The law LeadBetween: what its text computes. Nothing is assumed. -/
import Derived.Test.YtopliajfonpbcaaLed0
namespace Go.Proofs.Ytopliajfonpbcaa.Led
open Go Fla Led0
noncomputable section
def ldV (O : FOps) (x : Fl) (a b : Int) : Nat := foldFrom (f2 O (xFD x) a b) 0 x.n3.toNat (foldFrom (f1 O (xFD x) a b) 0 x.n2.toNat 0)
set_option maxRecDepth 100000 in
theorem I_run (O : FOps) (x : Fl) (g : Fg) (a b : Int) : roS (inl (cx0 O) Try.f66 ⟨fun _ => none, lpOf [(3, IL1 O), (9, IL2 O)]⟩) 5 [.a (x.sls g), .c (.int .i64 (.s a)), .c (.int .i64 (.s b))] (x.rd g []) =
    some ⟨.c (.flt .f32 (ldV O x a b)), [], 120, flR x ++ [pB (IP1 x.n2 x.n2 0 x.N3 x.N2 x.N1 x.N0 x.n0 x.n1 x.n2 x.n3 x.r0 x.r1 x.r2 x.r3)] ++ flR x ++ [pB (IP2 x.n3 x.n3 0 x.n3 x.n2 x.n1 x.n0 x.n0 x.n1 x.n2 x.n3 x.r0 x.r1 x.r2 x.r3)]⟩ := by kernel_rfl
set_option maxRecDepth 100000 in
theorem S_run (O : FOps) (x : Fl) (g : Fg) (a b : Int) : roS (inl (cx0 O) Try.f65 ⟨fun _ => none, lpOf [(3, SL1 O), (8, SL2 O)]⟩) 6 [.c (.ptr 5 0), .c (.int .i64 (.s a)), .c (.int .i64 (.s b))] (x.rd g (x.box g)) =
    some ⟨.c (.flt .f32 (ldV O x a b)), [], 120, flR x ++ [pB (SP1 0 x.N3 x.N2 x.N1 x.N0 x.n0 x.n1 x.n2 x.n3 x.r0 x.r1 x.r2 x.r3)] ++ flR x ++ [pB (SP2 0 x.n3 x.n2 x.n1 x.n0 x.n0 x.n1 x.n2 x.n3 x.r0 x.r1 x.r2 x.r3)]⟩ := by kernel_rfl
def vL (O : FOps) (x : Fl) : List SV → Option (SV × List Bool)
  | [.c (.int .i64 (.s a)), .c (.int .i64 (.s b))] => some (.c (.flt .f32 (ldV O x a b)), [])
  | _ => none
def lIC (O : FOps) : CS := orS (canS (flH flV 120 (vL O))) (inl (cx0 O) Try.f66 noH)
def lSC (O : FOps) : CS := orS (canS (flH flP 120 (vL O))) (inl (cx0 O) Try.f65 noH)
set_option maxRecDepth 100000 in
theorem cLI : CallOK Try.prog 66 (lIC fops) :=
  (CallOK.hand (H := flH flV 120 (vL fops)) Ic.ro fun b args rd e h hob => by
    obtain ⟨x, rest, v, ob, h1, h2, rfl⟩ := flH_some h
    obtain ⟨g, rfl, rfl, rfl⟩ := flV_some h1
    unfold vL at h2
    split at h2 <;> cases h2
    rename_i a b
    have hx := hob.head
    have hf := flR_ok hx
    exact ⟨_, I_run fops x g a b, AllT.app (AllT.app (AllT.app hf (AllT.one' (pB_iff.2 ⟨rfl, rfl, rfl, pB_iff.1 hx⟩))) hf) (AllT.one' (pB_iff.2 ⟨rfl, rfl, rfl, okd2 hx⟩))⟩).can.or
    (inlN_of (l := L0) okL0 mixed 8 Try.func66 (by kernel_rfl) (fun _ => none))
set_option maxRecDepth 100000 in
theorem cLS : CallOK Try.prog 65 (lSC fops) :=
  (CallOK.hand (H := flH flP 120 (vL fops)) Sc.ro fun b args rd e h hob => by
    obtain ⟨x, rest, v, ob, h1, h2, rfl⟩ := flH_some h
    obtain ⟨g, rfl, rfl, rfl⟩ := flP_some h1
    unfold vL at h2
    split at h2 <;> cases h2
    rename_i a b
    have hx := hob.head
    have hf := flR_ok hx
    exact ⟨_, S_run fops x g a b, AllT.app (AllT.app (AllT.app hf (AllT.one' (pB_iff.2 ⟨rfl, pB_iff.1 hx⟩))) hf) (AllT.one' (pB_iff.2 ⟨rfl, okd2 hx⟩))⟩).can.or
    (inlN_of (l := L0) okL0 mixed 8 Try.func65 (by kernel_rfl) (fun _ => none))
/-! ### the law -/
def LL (O : FOps) : List (Nat × CS) := (66, lIC O) :: (65, lSC O) :: LW O
set_option maxRecDepth 100000 in
theorem okLL : AllOK Try.prog (LL fops) := ⟨cLI, cLS, okLW⟩
noncomputable def hLaw : List (Nat × Bool) := [(17, false), (45, false), (50, false)]
noncomputable def run (O : FOps) (hl : List (Nat × Bool)) (v : SV) (rd : List (Nat × Seg)) (a b : Int) : Option (SV × List Bool) :=
  rE 5 (inl ⟨Try.prog, O, orcN Try.prog O (LL O) 8⟩ Try.f7 ⟨hints hl, fun _ => none⟩ 5 [v, .c (.int .i64 (.s a)), .c (.int .i64 (.s b))] rd)
def rI (n a b : Int) : Bool := bif decide (a < -1) then true else bif decide (n ≤ a) then true else bif decide (b < -1) then true else bif decide (n ≤ b) then true else decide (a = b)
def rS (n a b : Int) : Bool := bif !inS (-1) n a then true else bif !inS (-1) n b then true else decide (a = b)
theorem r_eq {n : Int} (h0 : 0 ≤ n) (h1 : n ≤ 1048576) (a b : Int) : rS n a b = rI n a b := by
  unfold rS rI
  rw [inS_eq h0 h1, inS_eq h0 h1]
  by_cases a1 : a < -1
  · rw [decide_eq_true a1, decide_eq_false (by omega : ¬ -1 ≤ a)]; rfl
  · rw [decide_eq_false a1, decide_eq_true (by omega : -1 ≤ a)]
    by_cases a2 : n ≤ a
    · rw [decide_eq_true a2, decide_eq_false (by omega : ¬ a < n)]; rfl
    · rw [decide_eq_false a2, decide_eq_true (by omega : a < n)]
      by_cases b1 : b < -1
      · rw [decide_eq_true b1, decide_eq_false (by omega : ¬ -1 ≤ b)]; rfl
      · rw [decide_eq_false b1, decide_eq_true (by omega : -1 ≤ b)]
        by_cases b2 : n ≤ b
        · rw [decide_eq_true b2, decide_eq_false (by omega : ¬ b < n)]; rfl
        · rw [decide_eq_false b2, decide_eq_true (by omega : b < n)]; rfl
def val (V r : Bool) (v : Nat) : Nat := bif !V then 0 else bif r then 0 else v
def cod (V r : Bool) : Int := bif !V then 1 else bif r then 2 else 0
def tB (O : FOps) (x y : Nat) (c d : Int) : Bool := bif !sf O (O.conv .f32 .f64 x) (O.conv .f32 .f64 y) then true else !decide (c = d)
theorem tB_false (x : Nat) (c : Int) : tB fops x x c c = false := by unfold tB; simp [sf_self]
def oL (O : FOps) (x : FD) (r : Bool) : List Bool := oV x ++ gdB (!vF O x.fl) (gdB r (oV x))
set_option maxRecDepth 100000 in
theorem run_ok (O : FOps) (x : FD) (a b : Int) : run O hLaw (flA x) (rdA x) a b = some (.c (.bool .t), obP O x (oL O x (rS x.n0 a b)) (oL O x (rI x.n0 a b))
    (tB O (val (vF O x.fl) (rI x.n0 a b) (ldV O x.fl a b)) (val (vF O x.fl) (rS x.n0 a b) (ldV O x.fl a b)) (cod (vF O x.fl) (rI x.n0 a b)) (cod (vF O x.fl) (rS x.n0 a b)))) := by kernel_rfl
set_option maxRecDepth 100000 in
theorem run_big (O : FOps) (x : FD) (a b : Int) : run O [(17, true)] (flA x) (rdA x) a b = some (.c (.bool .t), [decide (sz x < 0)]) := by kernel_rfl
set_option maxRecDepth 100000 in
theorem run0 (O : FOps) (a b : Int) : run O hLaw flA0 [] a b = some (.c (.bool .t), [!tB O 0 0 1 1]) := by kernel_rfl
theorem law_all {x : FD} (hn : Nn x) (a b : Int) : ∃ hl ob, run fops hl (flA x) (rdA x) a b = some (.c (.bool .t), ob) ∧ AllT ob := by
  cases hz : decide (sz x < 0) with
  | true => exact ⟨_, _, run_big fops x a b, AllT.one' hz⟩
  | false =>
    have h := sz_small hn hz
    have v := oV_ok h
    refine ⟨_, _, run_ok fops x a b, obP_ok h hz (AllT.app v (gdB_ok fun _ => gdB_ok fun _ => v)) (AllT.app v (gdB_ok fun _ => gdB_ok fun _ => v)) ?_⟩
    rw [r_eq h.a.1 h.a.2]
    exact tB_false _ _
theorem law_all0 (a b : Int) : ∃ hl ob, run fops hl flA0 [] a b = some (.c (.bool .t), ob) ∧ AllT ob := ⟨_, _, run0 fops a b, AllT.one' (by rw [tB_false]; rfl)⟩
end
end Go.Proofs.Ytopliajfonpbcaa.Led
