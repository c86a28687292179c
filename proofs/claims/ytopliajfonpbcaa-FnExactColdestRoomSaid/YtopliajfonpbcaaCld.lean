/- The law ColdestRoom: what its text computes. Nothing is assumed. -/
import Derived.Test.YtopliajfonpbcaaCld0
namespace Go.Proofs.Ytopliajfonpbcaa.Cld
open Go Fla
noncomputable section
def bI (O : FOps) (x : Fl) : Int := foldFrom (fc O (xFD x)) 0 x.n0.toNat 0
def bS (O : FOps) (x : Fl) : Int := foldFrom (fc O (xFD x)) 1 (x.n0 - 1).toNat 0
theorem b_eq {x : Fl} (h : 1 ≤ x.n0) (O : FOps) : bS O x = bI O x := by
  unfold bS bI
  have e : x.n0.toNat = (x.n0 - 1).toNat + 1 := by omega
  rw [e]
  show _ = foldFrom (fc O (xFD x)) (0 + 1) (x.n0 - 1).toNat (fc O (xFD x) 0 0)
  have e0 : fc O (xFD x) 0 0 = 0 := by
    unfold fc
    cases O.cmp .lss .f32 ((xFD x).F0 0 0) ((xFD x).F0 0 0) <;> rfl
  rw [e0]
  rfl
def rv (V : Bool) (b : Int) : SV := .tup [.c (.int .i64 (.s (bif !V then 0 else b))), .c (.int .i64 (.s (bif !V then 1 else 0)))]
set_option maxRecDepth 100000 in
theorem I_run (O : FOps) (x : Fl) (g : Fg) : roS (inl (cxV O) Try.f30 ⟨fun _ => none, lpOf [(5, IL1 O)]⟩) 5 [.a (x.sls g)] (x.rd g []) =
    some ⟨rv (vF O x) (bI O x), [], 241, flR x ++ [x.ok] ++ gdB (!vF O x) (flR x ++ [pB (IP1 0 x.n0 x.n0 0 x.N3 x.N2 x.N1 x.N0 x.n0 x.n1 x.n2 x.n3 x.r0 x.r1 x.r2 x.r3)])⟩ := by kernel_rfl
set_option maxRecDepth 100000 in
theorem S_run (O : FOps) (x : Fl) (g : Fg) : roS (inl (cxV O) Try.f29 ⟨fun _ => none, lpOf [(5, SL1 O)]⟩) 5 [.a (x.sls g)] (x.rd g []) =
    some ⟨rv (vF O x) (bS O x), [], 240, flR x ++ [x.ok] ++ gdB (!vF O x) (flR x ++ [pB (SP1 0 1 x.N3 x.N2 x.N1 x.N0 x.n0 x.n1 x.n2 x.n3 x.r0 x.r1 x.r2 x.r3)])⟩ := by kernel_rfl
def vL (O : FOps) (x : Fl) : List SV → Option (SV × List Bool)
  | [] => some (rv (vF O x) (bI O x), [])
  | _ => none
def lIC (O : FOps) : CS := orS (canS (flH flV 241 (vL O))) (inl (cxV O) Try.f30 noH)
def lSC (O : FOps) : CS := orS (canS (flH flV 240 (vL O))) (inl (cxV O) Try.f29 noH)
set_option maxRecDepth 100000 in
theorem cLI : CallOK Try.prog 30 (lIC fops) :=
  (CallOK.hand (H := flH flV 241 (vL fops)) Ic.ro fun b args rd e h hob => by
    obtain ⟨x, rest, v, ob, h1, h2, rfl⟩ := flH_some h
    obtain ⟨g, rfl, rfl, rfl⟩ := flV_some h1
    unfold vL at h2
    split at h2 <;> cases h2
    have hx := hob.head
    have hf := flR_ok hx
    exact ⟨_, I_run fops x g, AllT.app (AllT.app hf (AllT.one' hx)) (gdB_ok fun e => AllT.app hf (AllT.one' (pB_iff.2 ⟨rfl, rfl, rfl, rfl, by have := (rgI_false (vF_true (nb e)).1).1; omega, pB_iff.1 hx⟩)))⟩).can.or
    (inlN_of (l := LV fops) okLV mixed 8 Try.func30 (by kernel_rfl) (fun _ => none))
theorem rv_eq (x : Fl) : rv (vF fops x) (bS fops x) = rv (vF fops x) (bI fops x) := by
  cases h : vF fops x with
  | false => rfl
  | true => rw [b_eq (rgI_false (vF_true h).1).1]
set_option maxRecDepth 100000 in
theorem cLS : CallOK Try.prog 29 (lSC fops) :=
  (CallOK.hand (H := flH flV 240 (vL fops)) Sc.ro fun b args rd e h hob => by
    obtain ⟨x, rest, v, ob, h1, h2, rfl⟩ := flH_some h
    obtain ⟨g, rfl, rfl, rfl⟩ := flV_some h1
    unfold vL at h2
    split at h2 <;> cases h2
    have hx := hob.head
    have hf := flR_ok hx
    have r := S_run fops x g
    rw [rv_eq] at r
    exact ⟨_, r, AllT.app (AllT.app hf (AllT.one' hx)) (gdB_ok fun e => AllT.app hf (AllT.one' (pB_iff.2 ⟨rfl, rfl, by have := (rgI_false (vF_true (nb e)).1).1; omega, pB_iff.1 hx⟩)))⟩).can.or
    (inlN_of (l := LV fops) okLV mixed 8 Try.func29 (by kernel_rfl) (fun _ => none))
/-! ### the law -/
def LL (O : FOps) : List (Nat × CS) := (30, lIC O) :: (29, lSC O) :: LW O
set_option maxRecDepth 100000 in
theorem okLL : AllOK Try.prog (LL fops) := ⟨cLI, cLS, okLW⟩
noncomputable def hLaw : List (Nat × Bool) := [(13, false), (34, false), (39, false)]
noncomputable def run (O : FOps) (hl : List (Nat × Bool)) (v : SV) (rd : List (Nat × Seg)) : Option (SV × List Bool) :=
  rE 5 (inl ⟨Try.prog, O, orcN Try.prog O (LL O) 8⟩ Try.f6 ⟨hints hl, fun _ => none⟩ 5 [v] rd)
def tB (a b c d : Int) : Bool := bif !decide (a = b) then true else !decide (c = d)
theorem tB_false (a c : Int) : tB a a c c = false := by unfold tB; simp
def vv (V : Bool) (b : Int) : Int := bif !V then 0 else b
def cc (V : Bool) : Int := bif !V then 1 else 0
set_option maxRecDepth 100000 in
theorem run_ok (O : FOps) (x : FD) : run O hLaw (flA x) (rdA x) = some (.c (.bool .t), obP O x (oV x) (oV x) (tB (vv (vF O x.fl) (bI O x.fl)) (vv (vF O x.fl) (bI O x.fl)) (cc (vF O x.fl)) (cc (vF O x.fl)))) := by kernel_rfl
set_option maxRecDepth 100000 in
theorem run_big (O : FOps) (x : FD) : run O [(13, true)] (flA x) (rdA x) = some (.c (.bool .t), [decide (sz x < 0)]) := by kernel_rfl
set_option maxRecDepth 100000 in
theorem run0 (O : FOps) : run O [(13, false)] flA0 [] = some (.c (.bool .t), []) := by kernel_rfl
theorem law_all {x : FD} (hn : Nn x) : ∃ hl ob, run fops hl (flA x) (rdA x) = some (.c (.bool .t), ob) ∧ AllT ob := by
  cases hz : decide (sz x < 0) with
  | true => exact ⟨_, _, run_big fops x, AllT.one' hz⟩
  | false =>
    have h := sz_small hn hz
    exact ⟨_, _, run_ok fops x, obP_ok h hz (oV_ok h) (oV_ok h) (tB_false _ _)⟩
theorem law_all0 : ∃ hl ob, run fops hl flA0 [] = some (.c (.bool .t), ob) ∧ AllT ob := ⟨_, _, run0 fops, AllT.nil⟩
end
end Go.Proofs.Ytopliajfonpbcaa.Cld
