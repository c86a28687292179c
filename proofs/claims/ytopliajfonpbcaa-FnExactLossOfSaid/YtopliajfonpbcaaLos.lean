/- The law LossOf: what its text computes. Nothing is assumed. -/
import Derived.Test.YtopliajfonpbcaaLos0
import Derived.Test.YtopliajfonpbcaaFlx
namespace Go.Proofs.Ytopliajfonpbcaa.Los
open Go Fla Los0
noncomputable section
def lsV (O : FOps) (x : Fl) (t : Nat) : Nat := foldFrom (f2 O (xFD x) t) 0 x.n3.toNat (foldFrom (f1 O (xFD x) t) 0 x.n2.toNat 0)
def lsS (O : FOps) (x : Fl) (t : Nat) : Nat := foldFrom (f2S O (xFD x) t) 0 x.n3.toNat (foldFrom (f1S O (xFD x) t) 0 x.n2.toNat 0)
/-- The sides are rooms, or outside. -/
def Sides (x : Fl) : Prop := Pin (xFD x) ∧ (∀ k, 0 ≤ k → k < x.n2 → -1 ≤ datG x.r2 1 k) ∧ ∀ k, 0 ≤ k → k < x.n3 → -1 ≤ datG x.r3 1 k
theorem neg_eq {b : Int} (h : -1 ≤ b) : decide (b < 0) = decide (b = -1) := decide_eq_decide.2 (by omega)
theorem ls_eq {x : Fl} (h0 : 0 ≤ x.n2) (h1 : 0 ≤ x.n3) (h : Sides x) (O : FOps) (t : Nat) : lsS O x t = lsV O x t := by
  unfold lsS lsV
  have e1 : foldFrom (f1S O (xFD x) t) 0 x.n2.toNat 0 = foldFrom (f1 O (xFD x) t) 0 x.n2.toNat 0 := foldFrom_congr _ _ _ fun j s g0 g1 => by
    unfold f1S f1
    rw [neg_eq (b := (xFD x).G2 1 j) (h.2.1 j g0 (by omega))]
  rw [e1]
  exact foldFrom_congr _ _ _ fun j s g0 g1 => by
    unfold f2S f2
    rw [neg_eq (b := (xFD x).G3 1 j) (h.2.2 j g0 (by omega))]
set_option maxRecDepth 100000 in
theorem I_run (O : FOps) (x : Fl) (g : Fg) (t : Nat) : roS (inl (cx0 O) Try.f71 ⟨fun _ => none, lpOf [(3, IL1 O), (9, IL2 O)]⟩) 5 [.a (x.sls g), .c (.flt .f32 t)] (x.rd g []) =
    some ⟨.c (.flt .f32 (lsV O x t)), [], 120, flR x ++ [pB (IP1 x.n2 x.n2 0 x.N3 x.N2 x.N1 x.N0 x.n0 x.n1 x.n2 x.n3 x.r0 x.r1 x.r2 x.r3)] ++ flR x ++ [pB (IP2 x.n3 x.n3 0 x.n3 x.n2 x.n1 x.n0 x.n0 x.n1 x.n2 x.n3 x.r0 x.r1 x.r2 x.r3)]⟩ := by kernel_rfl
set_option maxRecDepth 100000 in
theorem S_run (O : FOps) (x : Fl) (g : Fg) (t : Nat) : roS (inl (cx0 O) Try.f68 ⟨fun _ => none, lpOf [(3, SL1 O), (9, SL2 O)]⟩) 6 [.c (.ptr 5 0), .c (.flt .f32 t)] (x.rd g (x.box g)) =
    some ⟨.c (.flt .f32 (lsS O x t)), [], 120, flR x ++ [pB (SP1 0 x.N3 x.N2 x.N1 x.N0 x.n0 x.n1 x.n2 x.n3 x.r0 x.r1 x.r2 x.r3)] ++ flR x ++ [pB (SP2 0 x.n3 x.n2 x.n1 x.n0 x.n0 x.n1 x.n2 x.n3 x.r0 x.r1 x.r2 x.r3)]⟩ := by kernel_rfl
def vL (O : FOps) (x : Fl) : List SV → Option (SV × List Bool)
  | [.c (.flt .f32 t)] => some (.c (.flt .f32 (lsV O x t)), [pB (Sides x)])
  | _ => none
def lIC (O : FOps) : CS := orS (canS (flH flV 120 (vL O))) (inl (cx0 O) Try.f71 noH)
def lSC (O : FOps) : CS := orS (canS (flH flP 120 (vL O))) (inl (cx0 O) Try.f68 noH)
set_option maxRecDepth 100000 in
theorem cLI : CallOK Try.prog 71 (lIC fops) :=
  (CallOK.hand (H := flH flV 120 (vL fops)) Ic.ro fun b args rd e h hob => by
    obtain ⟨x, rest, v, ob, h1, h2, rfl⟩ := flH_some h
    obtain ⟨g, rfl, rfl, rfl⟩ := flV_some h1
    unfold vL at h2
    split at h2 <;> cases h2
    rename_i t
    have hx := hob.head
    have hs : Sides x := pB_iff.1 (hob.tail.head)
    have hf := flR_ok hx
    exact ⟨_, I_run fops x g t, AllT.app (AllT.app (AllT.app hf (AllT.one' (pB_iff.2 ⟨rfl, rfl, rfl, pB_iff.1 hx⟩))) hf) (AllT.one' (pB_iff.2 ⟨rfl, rfl, rfl, hs.1, okd2 hx⟩))⟩).can.or
    (inlN_of (l := L0) okL0 mixed 8 Try.func71 (by kernel_rfl) (fun _ => none))
set_option maxRecDepth 100000 in
theorem cLS : CallOK Try.prog 68 (lSC fops) :=
  (CallOK.hand (H := flH flP 120 (vL fops)) Sc.ro fun b args rd e h hob => by
    obtain ⟨x, rest, v, ob, h1, h2, rfl⟩ := flH_some h
    obtain ⟨g, rfl, rfl, rfl⟩ := flP_some h1
    unfold vL at h2
    split at h2 <;> cases h2
    rename_i t
    have hx := hob.head
    have hs : Sides x := pB_iff.1 (hob.tail.head)
    have hf := flR_ok hx
    obtain ⟨_, _, _, _, _, _, b2, _, b3, _⟩ := pB_iff.1 hx
    have r := S_run fops x g t
    rw [ls_eq b2 b3 hs] at r
    exact ⟨_, r, AllT.app (AllT.app (AllT.app hf (AllT.one' (pB_iff.2 ⟨rfl, pB_iff.1 hx⟩))) hf) (AllT.one' (pB_iff.2 ⟨rfl, hs.1, okd2 hx⟩))⟩).can.or
    (inlN_of (l := L0) okL0 mixed 8 Try.func68 (by kernel_rfl) (fun _ => none))
theorem v_sides {x : Fl} (h : vF fops x = true) : Sides x := ⟨fun _ h0 h1 => ⟨(v_pane h h0 h1).1.1, (v_pane h h0 h1).1.2.1⟩, fun _ h0 h1 => (v_wall h h0 h1).1.2.2.1, fun _ h0 h1 => (v_pane h h0 h1).1.2.2.1⟩
/-- What goes outside is a number. -/
theorem ls_num {x : Fl} (h : vF fops x = true) (h2 : 0 ≤ x.n2) (h3 : 0 ≤ x.n3) {t : Nat} (ht : Bd t 1114636288) : isNum (lsV fops x t) = true := by
  obtain ⟨_, _, _, c2, c3⟩ := v_rooms h
  have b1 : Bd (foldFrom (f1 fops (xFD x) t) 0 x.n2.toNat 0) (Wd (0 + x.n2.toNat)) := fold_bd (n := x.n2) (fun k s hk hlt => by
    unfold f1
    cases decide ((xFD x).G2 1 k = -1) with
    | false => exact .inl rfl
    | true =>
      obtain ⟨_, _, l, _, _, hh⟩ := v_wall h hk hlt
      have w1 : Bd (fops.bin .mul .f32 1073741824 (datF x.r2 2 k)) 1128792064 := Bd.mul (bd_small (Nat.le_refl _) (by decide)) (bd_small l (by decide)) (by decide) (by decide +kernel)
      have w2 : Bd (fops.bin .sub .f32 (datF x.r2 7 k) t) 1132593152 := Bd.sub (hot_bd hh) ht (by decide) (by decide +kernel)
      exact .inr ⟨_, Bd.mul w1 w2 (by decide) (by decide +kernel), rfl⟩) x.n2.toNat 0 0 0 (Int.le_refl _) (by omega) (by omega) (bd_small (Nat.le_refl _) (by decide))
  have b2 := fold_bd (f := f2 fops (xFD x) t) (n := x.n3) (fun k s hk hlt => by
    unfold f2
    cases decide ((xFD x).G3 1 k = -1) with
    | false => exact .inl rfl
    | true =>
      obtain ⟨⟨a, b, _⟩, l, _⟩ := v_pane h hk hlt
      have w2 : Bd (fops.bin .sub .f32 (datF x.r0 0 (datG x.r3 0 k)) t) 1132593152 := Bd.sub (hot_bd (v_heat h a b).1) ht (by decide) (by decide +kernel)
      exact .inr ⟨_, Bd.mul (bd_small l (by decide)) w2 (by decide) (by decide +kernel), rfl⟩) x.n3.toNat 0 _ (0 + x.n2.toNat) (Int.le_refl _) (by omega) (by omega) b1
  exact b2.num
/-! ### the law -/
def LL (O : FOps) : List (Nat × CS) := (71, lIC O) :: (68, lSC O) :: (47, gQ [.s 1] (finG isNum)) :: LW O
set_option maxRecDepth 100000 in
theorem okLL : AllOK Try.prog (LL fops) := ⟨cLI, cLS, cFin, okLW⟩
def LLn (O : FOps) (nm : Nat → Bool) : List (Nat × CS) := (71, lIC O) :: (68, lSC O) :: (47, gQ [.s 1] (finG nm)) :: LW O
noncomputable def hLaw : List (Nat × Bool) := [(15, false), (41, false), (46, false)]
noncomputable def runN (O : FOps) (nm : Nat → Bool) (hl : List (Nat × Bool)) (v : SV) (rd : List (Nat × Seg)) (t : Nat) : Option (SV × List Bool) :=
  rE 5 (inl ⟨Try.prog, O, orcN Try.prog O (LLn O nm) 8⟩ Try.f8 ⟨hints hl, fun _ => none⟩ 5 [v, .c (.flt .f32 t)] rd)
noncomputable def run (O : FOps) (hl : List (Nat × Bool)) (v : SV) (rd : List (Nat × Seg)) (t : Nat) : Option (SV × List Bool) :=
  rE 5 (inl ⟨Try.prog, O, orcN Try.prog O (LL O) 8⟩ Try.f8 ⟨hints hl, fun _ => none⟩ 5 [v, .c (.flt .f32 t)] rd)
def outB (O : FOps) (t : Nat) : Bool := bif O.cmp .geq .f32 t 3262119936 then O.cmp .leq .f32 t 1114636288 else false
def valI (V o f : Bool) (v : Nat) : Nat := bif !V then 0 else bif !o then 0 else bif !f then 0 else v
def codI (V o f : Bool) : Int := bif !V then 1 else bif !o then 2 else bif !f then 4 else 0
def valS (V o : Bool) (v : Nat) : Nat := bif !V then 0 else bif !o then 0 else v
def codS (V o : Bool) : Int := bif !V then 1 else bif !o then 2 else 0
def tB (O : FOps) (x y : Nat) (c d : Int) : Bool := bif !sf O (O.conv .f32 .f64 x) (O.conv .f32 .f64 y) then true else !decide (c = d)
theorem tB_false (x : Nat) (c : Int) : tB fops x x c c = false := by unfold tB; simp [sf_self]
def oL (O : FOps) (x : FD) (o : Bool) : List Bool := oV x ++ gdB (!vF O x.fl) (gdB (!o) (oV x ++ [pB (Sides x.fl)]))
def fb (nm : Nat → Bool) (x : Nat) : Bool := bif nm x then true else false
set_option maxRecDepth 100000 in
theorem run_ok (O : FOps) (nm : Nat → Bool) (x : FD) (t : Nat) : runN O nm hLaw (flA x) (rdA x) t = some (.c (.bool .t), obP O x (oL O x (outB O t)) (oL O x (outB O t))
    (tB O (valI (vF O x.fl) (outB O t) (fb nm (lsV O x.fl t)) (lsV O x.fl t)) (valS (vF O x.fl) (outB O t) (lsV O x.fl t)) (codI (vF O x.fl) (outB O t) (fb nm (lsV O x.fl t))) (codS (vF O x.fl) (outB O t)))) := by kernel_rfl
set_option maxRecDepth 100000 in
theorem run_big (O : FOps) (x : FD) (t : Nat) : run O [(15, true)] (flA x) (rdA x) t = some (.c (.bool .t), [decide (sz x < 0)]) := by kernel_rfl
set_option maxRecDepth 100000 in
theorem run0 (O : FOps) (t : Nat) : run O hLaw flA0 [] t = some (.c (.bool .t), [!tB O 0 0 1 1]) := by kernel_rfl
theorem out_bd {t : Nat} (h : outB fops t = true) : Bd t 1114636288 := by
  unfold outB at h
  cases h1 : fops.cmp .geq .f32 t 3262119936 with
  | false => rw [h1] at h; cases h
  | true => rw [h1] at h; exact bd_between h1 h (by decide) (by decide)
theorem law_all {x : FD} (hn : Nn x) (t : Nat) : ∃ hl ob, run fops hl (flA x) (rdA x) t = some (.c (.bool .t), ob) ∧ AllT ob := by
  cases hz : decide (sz x < 0) with
  | true => exact ⟨_, _, run_big fops x t, AllT.one' hz⟩
  | false =>
    have h := sz_small hn hz
    have v := oV_ok h
    have o : AllT (oL fops x (outB fops t)) := AllT.app v (gdB_ok fun e => gdB_ok fun _ => AllT.app v (AllT.one' (pB_iff.2 (v_sides (nb e)))))
    refine ⟨_, _, run_ok fops isNum x t, obP_ok h hz o o ?_⟩
    cases hv : vF fops x.fl with
    | false => exact tB_false _ _
    | true =>
      cases ho : outB fops t with
      | false => exact tB_false _ _
      | true =>
        have : fb isNum (lsV fops x.fl t) = true := by
          unfold fb
          rw [ls_num hv h.c.1 h.d.1 (out_bd ho)]
          rfl
        rw [this]
        exact tB_false _ _
theorem law_all0 (t : Nat) : ∃ hl ob, run fops hl flA0 [] t = some (.c (.bool .t), ob) ∧ AllT ob := ⟨_, _, run0 fops t, AllT.one' (by rw [tB_false]; rfl)⟩
end
end Go.Proofs.Ytopliajfonpbcaa.Los
