/- How much heat goes into each room: the contracts, the law. Nothing is assumed. -/
import Derived.Test.YtopliajfonpbcaaRfl0
import Derived.Test.YtopliajfonpbcaaFlx
import Derived.Test.YtopliajfonpbcaaFnr
namespace Go.Proofs.Ytopliajfonpbcaa.Rfl
open Go Fla Rfl0
noncomputable section
/-- What goes into the rooms. -/
def flows (O : FOps) (x : Fl) (t u : Nat) : Int → Nat := foldFrom (f2 O (xFD x) t u) 0 x.n3.toNat (foldFrom (f1 O (xFD x) t u) 0 x.n2.toNat (fun _ => 0))
def flowsS (O : FOps) (x : Fl) (t u : Nat) : Int → Nat := foldFrom (g2 O (xFD x) t u) 0 x.n3.toNat (foldFrom (f1 O (xFD x) t u) 0 x.n2.toNat (fun _ => 0))
def SD (x : Fl) : Prop := Win (xFD x) ∧ Pan (xFD x)
def Z1 : Int → List SC := OR (fun _ => 0)
set_option maxRecDepth 100000 in
theorem I_run (O : FOps) (x : Fl) (g : Fg) (t u : Nat) : nwS (inl (cx0 O) Try.f75 ⟨fun _ => none, lpOf [(3, IL1 O), (11, IL2 O)]⟩) 5 [.a (x.sls g), .c (.flt .f32 t), .c (.flt .f32 u)] (x.rd g []) =
    some ⟨.c (.sl 6 0 1 (.s x.n0) true), [(6, some ⟨true, true, .rows 1 x.n0 (OR (flows O x t u))⟩)], 120, [decide (x.n0 = x.n0 ∧ 0 ≤ x.n0 ∧ x.n0 ≤ 100000000)] ++ ([flatR Z1] ++ flR x ++ [pB (IP1 x.n0 x.n2 x.n2 0 x.n0 x.N3 x.N2 x.N1 x.N0 x.n0 x.n1 x.n2 x.n3 Z1 x.r0 x.r1 x.r2 x.r3)]) ++ ([flatR (OR (foldFrom (f1 O (xFD x) t u) 0 x.n2.toNat (fun _ => 0)))] ++ flR x ++ [pB (IP2 x.n0 x.n3 x.n3 0 x.n0 x.n3 x.n2 x.n1 x.n0 x.n0 x.n1 x.n2 x.n3 (OR (foldFrom (f1 O (xFD x) t u) 0 x.n2.toNat (fun _ => 0))) x.r0 x.r1 x.r2 x.r3)])⟩ := by kernel_rfl
set_option maxRecDepth 100000 in
theorem S_run (O : FOps) (x : Fl) (g : Fg) (t u : Nat) : nwS (inl (cx0 O) Try.f74 ⟨fun _ => none, lpOf [(3, SL1 O), (11, SL2 O)]⟩) 6 [.c (.ptr 5 0), .c (.flt .f32 t), .c (.flt .f32 u)] (x.rd g (x.box g)) =
    some ⟨.c (.sl 6 0 1 (.s x.n0) true), [(6, some ⟨true, true, .rows 1 x.n0 (OR (flowsS O x t u))⟩)], 120, [decide (x.n0 = x.n0 ∧ 0 ≤ x.n0 ∧ x.n0 ≤ 100000000)] ++ ([flatR Z1] ++ flR x ++ [pB (SP1 x.n0 0 x.n0 x.N3 x.N2 x.N1 x.N0 x.n0 x.n1 x.n2 x.n3 Z1 x.r0 x.r1 x.r2 x.r3)]) ++ ([flatR (OR (foldFrom (f1 O (xFD x) t u) 0 x.n2.toNat (fun _ => 0)))] ++ flR x ++ [pB (SP2 x.n0 0 x.n0 x.n3 x.n2 x.n1 x.n0 x.n0 x.n1 x.n2 x.n3 (OR (foldFrom (f1 O (xFD x) t u) 0 x.n2.toNat (fun _ => 0))) x.r0 x.r1 x.r2 x.r3)])⟩ := by kernel_rfl
def flN (O : FOps) (D : Nat → List SV → List (Nat × Seg) → Option (Fl × List SV)) : CS := fun base args rd => match D base args rd with
  | some (x, [.c (.flt .f32 t), .c (.flt .f32 u)]) => some ⟨.c (.sl 6 0 1 (.s x.n0) true), [(6, some ⟨true, true, .rows 1 x.n0 (OR (flows O x t u))⟩)], 120, [x.ok, pB (SD x)]⟩
  | _ => none
theorem flN_some {O : FOps} {D : Nat → List SV → List (Nat × Seg) → Option (Fl × List SV)} {b : Nat} {args : List SV} {rd : List (Nat × Seg)} {e : CEff} (h : flN O D b args rd = some e) :
    ∃ x t u, D b args rd = some (x, [.c (.flt .f32 t), .c (.flt .f32 u)]) ∧ e = ⟨.c (.sl 6 0 1 (.s x.n0) true), [(6, some ⟨true, true, .rows 1 x.n0 (OR (flows O x t u))⟩)], 120, [x.ok, pB (SD x)]⟩ := by
  unfold flN at h
  split at h <;> cases h
  rename_i x t u hd
  exact ⟨x, t, u, hd, rfl⟩
theorem neg_eq {b : Int} (h : -1 ≤ b) : decide (b < 0) = decide (b = -1) := decide_eq_decide.2 (by omega)
theorem qS_eq (O : FOps) (x : FD) (b u : Nat) (k : Int) (s : Int → Nat) : Rfl0.q2 O x u k (Rfl0.q1 O x b k s) = qS O x b u k s := by
  funext j
  unfold Rfl0.q2 Rfl0.q1 qS up
  rw [decide_eq_true rfl]
  by_cases e : j = x.G3 0 k
  · rw [decide_eq_true e]; rfl
  · rw [decide_eq_false e]; rfl
theorem flows_eq {x : Fl} (h : SD x) (h3 : 0 ≤ x.n3) (O : FOps) (t u : Nat) : flowsS O x t u = flows O x t u := by
  unfold flowsS flows
  refine foldFrom_congr _ _ _ fun j s g0 g1 => ?_
  obtain ⟨_, _, hb, _⟩ := h.2 j g0 (show j < x.n3 by omega)
  have e : hBS (xFD x) t j = hB (xFD x) t j := by unfold hBS hB; rw [neg_eq hb]
  unfold g2 f2 g2A g2B f2A f2B
  rw [e, qS_eq]
theorem Z1_eq : Z1 = OR (fun j => datF Z1 0 j) := rfl
theorem OR_dat (s : Int → Nat) : OR s = OR (fun j => datF (OR s) 0 j) := rfl
def iC (O : FOps) : CS := orS (canS (flN O flV)) (inl (cx0 O) Try.f75 noH)
def sC (O : FOps) : CS := orS (canS (flN O flP)) (inl (cx0 O) Try.f74 noH)
set_option maxRecDepth 100000 in
theorem cI : CallOK Try.prog 75 (iC fops) :=
  (CallOK.hand (H := flN fops flV) Ic.nw fun b args rd e h hob => by
    obtain ⟨x, t, u, h1, rfl⟩ := flN_some h
    obtain ⟨g, rfl, rfl, rfl⟩ := flV_some h1
    have hx := hob.head
    have hs : SD x := pB_iff.1 hob.tail.head
    have hf := flR_ok hx
    obtain ⟨_, _, _, _, b0, c0, _⟩ := pB_iff.1 hx
    exact ⟨_, I_run fops x g t u, AllT.app (AllT.app (AllT.one' (by simp; omega)) (AllT.app (AllT.app (AllT.one' (OR_flat _)) hf) (AllT.one' (pB_iff.2 ⟨rfl, rfl, rfl, rfl, rfl, hs.1, Z1_eq, pB_iff.1 hx⟩)))) (AllT.app (AllT.app (AllT.one' (OR_flat _)) hf) (AllT.one' (pB_iff.2 ⟨rfl, rfl, rfl, rfl, rfl, hs.2, OR_dat _, okd2 hx⟩)))⟩).can.or
    (inlN_of (l := L0) okL0 mixed 8 Try.func75 (by kernel_rfl) (fun _ => none))
set_option maxRecDepth 100000 in
theorem cS : CallOK Try.prog 74 (sC fops) :=
  (CallOK.hand (H := flN fops flP) Sc.nw fun b args rd e h hob => by
    obtain ⟨x, t, u, h1, rfl⟩ := flN_some h
    obtain ⟨g, rfl, rfl, rfl⟩ := flP_some h1
    have hx := hob.head
    have hs : SD x := pB_iff.1 hob.tail.head
    have hf := flR_ok hx
    obtain ⟨_, _, _, _, b0, c0, b2, c2, b3, c3, _⟩ := pB_iff.1 hx
    have r := S_run fops x g t u
    rw [flows_eq hs b3] at r
    exact ⟨_, r, AllT.app (AllT.app (AllT.one' (by simp; omega)) (AllT.app (AllT.app (AllT.one' (OR_flat _)) hf) (AllT.one' (pB_iff.2 ⟨rfl, rfl, rfl, hs.1, Z1_eq, pB_iff.1 hx⟩)))) (AllT.app (AllT.app (AllT.one' (OR_flat _)) hf) (AllT.one' (pB_iff.2 ⟨rfl, rfl, rfl, hs.2, OR_dat _, okd2 hx⟩)))⟩).can.or
    (inlN_of (l := L0) okL0 mixed 8 Try.func74 (by kernel_rfl) (fun _ => none))
/-! ### the flows are numbers -/
/-- The words of 0, 131072, 262144, .. -/
def vl : List Nat := [0, 1207959552, 1216348160, 1220542464, 1224736768, 1226833920, 1228931072, 1231028224, 1233125376, 1234173952, 1235222528, 1236271104, 1237319680, 1238368256, 1239416832, 1240465408, 1241513984, 1242038272, 1242562560, 1243086848, 1243611136, 1244135424, 1244659712, 1245184000, 1245708288, 1246232576, 1246756864, 1247281152, 1247805440, 1248329728, 1248854016, 1249378304, 1249902592, 1250164736, 1250426880, 1250689024, 1250951168, 1251213312, 1251475456, 1251737600, 1251999744, 1252261888, 1252524032, 1252786176, 1253048320]
def V (k : Nat) : Nat := vl.getD k 0
theorem V_all : (List.range 44).all (fun k => Nat.ble (un (V k) + un 1207959552) (un (V (k + 1))) && (Nat.ble (V k) (V (k + 1)) && Nat.ble (V (k + 1)) 2139095039)) = true := by decide +kernel
theorem V_step {k : Nat} (h : k < 44) : un (V k) + un 1207959552 ≤ un (V (k + 1)) ∧ V k ≤ V (k + 1) ∧ V (k + 1) < 2139095040 := by
  have := List.all_eq_true.1 V_all k (List.mem_range.2 h)
  simp only [Bool.and_eq_true, Nat.ble_eq] at this
  exact ⟨this.1, this.2.1, by omega⟩
def BdA (s : Int → Nat) (j : Nat) : Prop := ∀ i, Bd (s i) (V j)
theorem BdA.up {s : Int → Nat} {j : Nat} (h : BdA s j) (hj : j < 44) (i : Int) {t : Nat} (ht : Bd t 1207959552) : BdA (Rfl0.up s i (fops.bin .add .f32 (s i) t)) (j + 1) := fun k => by
  obtain ⟨w1, w2, w3⟩ := V_step hj
  unfold Rfl0.up
  cases decide (k = i) with
  | true => exact Bd.add (h i) ht w3 w1
  | false => exact (h k).mono w2
theorem BdA.mono1 {s : Int → Nat} {j : Nat} (h : BdA s j) (hj : j < 44) : BdA s (j + 1) := fun k => (h k).mono (V_step hj).2.1
theorem fold_bdA {f : Int → (Int → Nat) → Int → Nat} {n : Int} (c : Nat) (hf : ∀ k s j, 0 ≤ k → k < n → j + c ≤ 44 → BdA s j → BdA (f k s) (j + c)) : ∀ (m : Nat) (k : Int) (s : Int → Nat) (j : Nat), 0 ≤ k → k + m = n → j + c * m ≤ 44 → BdA s j → BdA (foldFrom f k m s) (j + c * m) := by
  intro m
  induction m with
  | zero => intro k s j _ _ _ hs; exact hs
  | succ m ih =>
    intro k s j hk hkn hj hs
    have e : c * (m + 1) = c * m + c := Nat.mul_succ c m
    have h1 := ih (k + 1) (f k s) (j + c) (by omega) (by omega) (by omega) (hf k s j hk (by omega) (by omega) hs)
    rw [show j + c * (m + 1) = j + c + c * m by omega]
    exact h1
theorem hB_bd {x : Fl} (h : vF fops x = true) {t : Nat} (ht : Bd t 1114636288) {k : Int} (hk : 0 ≤ k) (hlt : k < x.n3) : Bd (hB (xFD x) t k) 1128792064 := by
  unfold hB
  by_cases e : datG x.r3 1 k = -1
  · rw [show (xFD x).G3 1 k = datG x.r3 1 k from rfl, decide_eq_true e]; exact ht.mono (by decide)
  · rw [show (xFD x).G3 1 k = datG x.r3 1 k from rfl, decide_eq_false e]
    obtain ⟨⟨_, _, a, b, _⟩, _⟩ := v_pane h hk hlt
    exact hot_bd (v_heat h (by omega) b).1
theorem flows_num {x : Fl} (h : vF fops x = true) (h2 : 0 ≤ x.n2) (h3 : 0 ≤ x.n3) {t u : Nat} (ht : Bd t 1114636288) (hu : u ≤ 1092616192) (i : Int) : isNum (flows fops x t u i) = true := by
  obtain ⟨_, _, _, c2, c3⟩ := v_rooms h
  have s0 : BdA (fun _ => 0) 0 := fun _ => bd_small (Nat.le_refl _) (by decide)
  have b1 : BdA (foldFrom (f1 fops (xFD x) t u) 0 x.n2.toNat (fun _ => 0)) (0 + 2 * x.n2.toNat) := fold_bdA (n := x.n2) 2 (fun k s j hk hlt hj hs => by
    obtain ⟨⟨a, b, c, d, _⟩, _, l, _, hh, hh'⟩ := v_wall h hk hlt
    have w1 : Bd (fops.bin .mul .f32 1073741824 (datF x.r2 2 k)) 1128792064 := Bd.mul (bd_small (Nat.le_refl _) (by decide)) (bd_small l (by decide)) (by decide) (by decide +kernel)
    have w2 : Bd (fops.bin .sub .f32 (datF x.r2 4 k) (datF x.r0 0 (datG x.r2 0 k))) 1137180672 := Bd.sub (hot_bd hh) (hot_bd (v_heat h a b).1) (by decide) (by decide +kernel)
    have sA : BdA (f1A fops (xFD x) t u k s) (j + 1) := hs.up (by omega) _ (Bd.mul w1 w2 (by decide) (by decide +kernel))
    unfold f1
    by_cases e : datG x.r2 1 k = -1
    · rw [show (xFD x).G2 1 k = datG x.r2 1 k from rfl, decide_eq_true e]; exact sA.mono1 (by omega)
    · rw [show (xFD x).G2 1 k = datG x.r2 1 k from rfl, decide_eq_false e]
      have w3 : Bd (fops.bin .sub .f32 (datF x.r2 7 k) (datF x.r0 0 (datG x.r2 1 k))) 1137180672 := Bd.sub (hot_bd hh') (hot_bd (v_heat h (by omega) d).1) (by decide) (by decide +kernel)
      exact sA.up (by omega) _ (Bd.mul w1 w3 (by decide) (by decide +kernel))) x.n2.toNat 0 _ 0 (Int.le_refl _) (by omega) (by omega) s0
  have b2 := fold_bdA (f := f2 fops (xFD x) t u) (n := x.n3) 3 (fun k s j hk hlt hj hs => by
    obtain ⟨⟨a, b, c, d, _⟩, l, su⟩ := v_pane h hk hlt
    have hb := hB_bd h ht hk hlt
    have hh := hot_bd (v_heat h a b).1
    have w2 : Bd (fops.bin .sub .f32 (hB (xFD x) t k) (datF x.r0 0 (datG x.r3 0 k))) 1137180672 := Bd.sub hb hh (by decide) (by decide +kernel)
    have w3 : Bd (fops.bin .sub .f32 (datF x.r0 0 (datG x.r3 0 k)) (hB (xFD x) t k)) 1137180672 := Bd.sub hh hb (by decide) (by decide +kernel)
    have t1 : BdA (Rfl0.q1 fops (xFD x) (hB (xFD x) t k) k s) (j + 1) := hs.up (by omega) _ (Bd.mul (bd_small l (by decide)) w2 (by decide) (by decide +kernel))
    have t2 : BdA (Rfl0.q2 fops (xFD x) u k (Rfl0.q1 fops (xFD x) (hB (xFD x) t k) k s)) (j + 2) := t1.up (by omega) _ (Bd.mul (bd_small su (by decide)) (bd_small hu (by decide)) (by decide) (by decide +kernel))
    unfold f2
    by_cases e : datG x.r3 1 k = -1
    · rw [show (xFD x).G3 1 k = datG x.r3 1 k from rfl, decide_eq_true e]; exact t2.mono1 (by omega)
    · rw [show (xFD x).G3 1 k = datG x.r3 1 k from rfl, decide_eq_false e]
      exact t2.up (by omega) _ (Bd.mul (bd_small l (by decide)) w3 (by decide) (by decide +kernel))) x.n3.toNat 0 _ (0 + 2 * x.n2.toNat) (Int.le_refl _) (by omega) (by omega) b1
  exact (b2 i).num
theorem v_SD {x : Fl} (h : vF fops x = true) : SD x := ⟨fun _ h0 h1 => ⟨(v_wall h h0 h1).1.1, (v_wall h h0 h1).1.2.1, (v_wall h h0 h1).1.2.2.1, (v_wall h h0 h1).1.2.2.2.1⟩, fun _ h0 h1 => ⟨(v_pane h h0 h1).1.1, (v_pane h h0 h1).1.2.1, (v_pane h h0 h1).1.2.2.1, (v_pane h h0 h1).1.2.2.2.1⟩⟩
theorem flows_fin {x : Fl} (h : vF fops x = true) (h2 : 0 ≤ x.n2) (h3 : 0 ≤ x.n3) {t u : Nat} (ht : Bd t 1114636288) (hu : u ≤ 1092616192) : Fnr.finN isNum x.n0 (OR (flows fops x t u)) = true := by
  unfold Fnr.finN
  rw [eqFrom_all (q := fun k => isNum (datF (OR (flows fops x t u)) 0 k)) (fun k => flows_num h h2 h3 ht hu k)]
  rfl
/-! ### the law -/
def LLn (O : FOps) (nm : Nat → Bool) : List (Nat × CS) := (75, iC O) :: (74, sC O) :: (47, Fnr.frS nm) :: (20, SlFloat32.maC O) :: (76, SlWall.maC O) :: (77, SlPane.maC O) :: (21, SlFloat32.heC O) :: LW O
set_option maxRecDepth 100000 in
theorem okLL : AllOK Try.prog (LLn fops isNum) := ⟨cI, cS, Fnr.cFr, SlFloat32.cMaC, SlWall.cMaC, SlPane.cMaC, SlFloat32.cHeC, okLW⟩
def cxL (O : FOps) (nm : Nat → Bool) : Cx := ⟨Try.prog, O, orcN Try.prog O (LLn O nm) 8⟩
abbrev HH := List (Nat × Bool) × List (Nat × Bool)
def hOK : HH := ([(11, false), (19, false), (26, false)], [(9, false), (14, false)])
def hE1 : HH := ([(11, true)], [(9, true)])
def hE2 : HH := ([(11, false), (19, true)], [(9, false), (14, true)])
def hLaw : List (Nat × Bool) := [(22, false), (48, false), (53, false), (69, false), (77, false), (80, false), (97, false), (102, false), (105, false)]
def L3 (O : FOps) (nm : Nat → Bool) (h : HH) : List (Nat × CS) := (39, inl (cxL O nm) Try.f39 ⟨hints h.1, fun _ => none⟩) :: (38, inl (cxL O nm) Try.f38 ⟨hints h.2, fun _ => none⟩) :: LLn O nm
set_option maxRecDepth 100000 in
theorem okL3 (h : HH) : AllOK Try.prog (L3 fops isNum h) :=
  ⟨inlN_of (l := LLn fops isNum) okLL mixed 8 Try.func39 (by kernel_rfl) _, inlN_of (l := LLn fops isNum) okLL mixed 8 Try.func38 (by kernel_rfl) _, okLL⟩
def run (O : FOps) (nm : Nat → Bool) (h : HH) (hl : List (Nat × Bool)) (v : SV) (rd : List (Nat × Seg)) (t u : Nat) : Option (SV × List Bool) :=
  rE 5 (inl ⟨Try.prog, O, orcN Try.prog O (L3 O nm h) 8⟩ Try.f10 ⟨hints hl, fun _ => none⟩ 5 [v, .c (.flt .f32 t), .c (.flt .f32 u)] rd)
def outB (O : FOps) (t : Nat) : Bool := bif O.cmp .geq .f32 t 3262119936 then O.cmp .leq .f32 t 1114636288 else false
def rI (O : FOps) (t u : Nat) : Bool := bif !outB O t then true else !upTo O 1092616192 u
def wS (O : FOps) (t u : Nat) : Bool := bif outB O t then upTo O 1092616192 u else false
theorem wS_eq (O : FOps) (t u : Nat) : wS O t u = !rI O t u := by
  unfold wS rI
  cases outB O t <;> cases upTo O 1092616192 u <;> rfl
def fR (O : FOps) (x : FD) (t u : Nat) : Int → List SC := OR (flows O x.fl t u)
def oW (O : FOps) (x : FD) (t u : Nat) : List Bool := [flatR (C3 x), flatR (C2 x), flatR (C1 x), flatR (C0 x), flatR (fR O x t u), x.fl.ok, pB (SD x.fl)]
def oN (nm : Nat → Bool) (n : Int) (R : Int → List SC) : List Bool := [flatR R, SlFloat32.okN n n R, !!Fnr.finN nm n R]
def oQ (n : Int) (R : Int → List SC) : List Bool := [flatR R, flatR R, SlFloat32.okE' n n R n n R]
def u1 (x : FD) : Int := 1 + 1 * x.n0
def u2 (x : FD) : Int := u1 x + 1 * x.n1
def u3 (x : FD) : Int := u2 x + 8 * x.n2
def u4 (x : FD) : Int := u3 x + 4 * x.n3
def ng (x : FD) : Bool := decide (u4 x < 0)
def oM (O : FOps) (x : FD) : List Bool := [flatR (C0 x), flatR (SlFloat32.mkR O 1 x.n0 (C0 x)), SlFloat32.okM' x.n0 1 x.n0 (C0 x), flatR (C1 x), flatR (SlFloat32.mkR O (u1 x) x.n1 (C1 x)), SlFloat32.okM' x.n1 (u1 x) x.n1 (C1 x),
  flatR (C2 x), flatR (SlWall.mkR O (u2 x) x.n2 (C2 x)), SlWall.okM' x.n2 (u2 x) x.n2 (C2 x), flatR (C3 x), flatR (SlPane.mkR O (u3 x) x.n3 (C3 x)), SlPane.okM' x.n3 (u3 x) x.n3 (C3 x)]
def mR (O : FOps) (n : Int) (R : Int → List SC) : Int → List SC := SlFloat32.mkR O 1 n R
def oH (O : FOps) (n : Int) (R : Int → List SC) : List Bool := [flatR (mR O n R), SlFloat32.okH' n 1 n (mR O n R)]
def oK (n : Int) : List Bool := [!decide (1 + 1 * n < 0), !!decide (1 + 1 * n = 1 + 1 * n)]
def eqQ (O : FOps) (n : Int) (R : Int → List SC) : Bool := SlFloat32.eqR O n n R R
def tT (O : FOps) (n : Int) (R : Int → List SC) : Bool := bif !eqQ O n R then true else false
def oS (O : FOps) (x : FD) (t u : Nat) : List Bool := oV x ++ [!!vF O x.fl, !!wS O t u] ++ oW O x t u
def oI (O : FOps) (nm : Nat → Bool) (x : FD) (t u : Nat) : List Bool := oV x ++ [!!vF O x.fl, !rI O t u] ++ oW O x t u ++ oN nm x.n0 (fR O x t u)
def oB (O : FOps) (nm : Nat → Bool) (x : FD) (t u : Nat) : List Bool :=
  [!decide (sz x < 0)] ++ oC x ++ oS O x t u ++ oC x ++ oI O nm x t u ++ oQ x.n0 (fR O x t u) ++ [!tT O x.n0 (fR O x t u)] ++ oC x ++ oE O x ++ [!!eqF O x] ++ oM O x ++
  gdB (ng x) (oQ x.n0 (fR O x t u)) ++ [!(bif ng x then true else tT O x.n0 (fR O x t u))] ++ ([flatR (fR O x t u), flatR (mR O x.n0 (fR O x t u)), SlFloat32.okM' x.n0 1 x.n0 (fR O x t u)] ++ oH O x.n0 (fR O x t u) ++ oK x.n0) ++
  oC x ++ oI O nm x t u ++ oQ x.n0 (fR O x t u) ++ [!tT O x.n0 (fR O x t u)] ++ (oH O x.n0 (fR O x t u) ++ oK x.n0)
/-- An error. -/
def oZ (O : FOps) (x : FD) (Ss Si : List Bool) : List Bool := [!decide (sz x < 0)] ++ oC x ++ Ss ++ oC x ++ Si ++ oC x ++ oE O x ++ [!!eqF O x] ++ oM O x ++ [!(bif ng x then true else false)] ++ oC x ++ Si
set_option maxRecDepth 100000 in
theorem run_ok (O : FOps) (nm : Nat → Bool) (x : FD) (t u : Nat) : run O nm hOK hLaw (flA x) (rdA x) t u = some (.c (.bool .t), oB O nm x t u) := by kernel_rfl
set_option maxRecDepth 100000 in
theorem run_e1 (O : FOps) (nm : Nat → Bool) (x : FD) (t u : Nat) : run O nm hE1 hLaw (flA x) (rdA x) t u = some (.c (.bool .t), oZ O x (oV x ++ [!vF O x.fl]) (oV x ++ [!vF O x.fl])) := by kernel_rfl
set_option maxRecDepth 100000 in
theorem run_e2 (O : FOps) (nm : Nat → Bool) (x : FD) (t u : Nat) : run O nm hE2 hLaw (flA x) (rdA x) t u = some (.c (.bool .t), oZ O x (oV x ++ [!!vF O x.fl, !wS O t u]) (oV x ++ [!!vF O x.fl, rI O t u])) := by kernel_rfl
set_option maxRecDepth 100000 in
theorem run_big (O : FOps) (nm : Nat → Bool) (x : FD) (t u : Nat) : run O nm hOK [(22, true)] (flA x) (rdA x) t u = some (.c (.bool .t), [decide (sz x < 0)]) := by kernel_rfl
set_option maxRecDepth 100000 in
theorem run0 (O : FOps) (nm : Nat → Bool) (t u : Nat) : run O nm hE1 hLaw flA0 [] t u = some (.c (.bool .t), []) := by kernel_rfl
theorem out_bd {t : Nat} (h : outB fops t = true) : Bd t 1114636288 := by
  unfold outB at h
  cases h1 : fops.cmp .geq .f32 t 3262119936 with
  | false => rw [h1] at h; cases h
  | true => rw [h1] at h; exact bd_between h1 h (by decide) (by decide)
theorem rI_false {t u : Nat} (h : rI fops t u = false) : Bd t 1114636288 ∧ u ≤ 1092616192 := by
  unfold rI at h
  cases h1 : outB fops t with
  | false => rw [h1] at h; cases h
  | true => rw [h1] at h; exact ⟨out_bd h1, upTo_word (by decide) (nb h)⟩
theorem sm_sum {x : FD} (hn : Nn x) (h : decide (sz x < 0) = false) : x.n0 + x.n1 + x.n2 + x.n3 ≤ 1048576 := by
  have h' : ¬ sz x < 0 := of_decide_eq_false h
  unfold sz at h'
  by_cases e0 : l0 x < 0
  · rw [decide_eq_true e0] at h'; exact absurd (show (-1 : Int) < 0 by decide) h'
  rw [decide_eq_false e0] at h'
  by_cases e1 : l1 x < 0
  · rw [decide_eq_true e1] at h'; exact absurd (show (-1 : Int) < 0 by decide) h'
  rw [decide_eq_false e1] at h'
  by_cases e2 : l2 x < 0
  · rw [decide_eq_true e2] at h'; exact absurd (show (-1 : Int) < 0 by decide) h'
  rw [decide_eq_false e2] at h'
  by_cases e3 : l3 x < 0
  · rw [decide_eq_true e3] at h'; exact absurd (show (-1 : Int) < 0 by decide) h'
  obtain ⟨a1, a2⟩ := lz_eq hn.a.1 hn.a.2 (by decide) (Int.le_refl _) e0
  have a3 : l0 x = 1048576 - x.n0 := a2
  have := hn.a.1
  obtain ⟨b1, b2⟩ := lz_eq hn.b.1 hn.b.2 (l := l0 x) (by omega) (by omega) e1
  have b3 : l1 x = l0 x - x.n1 := b2
  have := hn.b.1
  obtain ⟨c1, c2⟩ := lz_eq hn.c.1 hn.c.2 (l := l1 x) (by omega) (by omega) e2
  have c3 : l2 x = l1 x - x.n2 := c2
  have := hn.c.1
  obtain ⟨d1, d2⟩ := lz_eq hn.d.1 hn.d.2 (l := l2 x) (by omega) (by omega) e3
  omega
theorem oM_ok {x : FD} (h : Sm x) : AllT (oM fops x) := by
  obtain ⟨a0, a1⟩ := h.a
  obtain ⟨b0, b1⟩ := h.b
  obtain ⟨c0, c1⟩ := h.c
  obtain ⟨d0, d1⟩ := h.d
  have e1 : 0 ≤ u1 x ∧ u1 x ≤ 50000000 := by unfold u1; omega
  have e2 : 0 ≤ u2 x ∧ u2 x ≤ 50000000 := by unfold u2 u1; omega
  have e3 : 0 ≤ u3 x ∧ u3 x ≤ 50000000 := by unfold u3 u2 u1; omega
  exact AllT.cons (shF (C0_sh x)) (AllT.cons (shF (SlFloat32.shape_row _ _)) (AllT.cons (pB_iff.2 ⟨rfl, a0, a1, by decide, by decide, C0_sh x⟩) (AllT.cons (shF (C1_sh x)) (AllT.cons (shF (SlFloat32.shape_row _ _)) (AllT.cons (pB_iff.2 ⟨rfl, b0, b1, e1.1, e1.2, C1_sh x⟩)
    (AllT.cons (shF (C2_sh x)) (AllT.cons (shF (SlWall.shape_row _ _)) (AllT.cons (pB_iff.2 ⟨rfl, c0, c1, e2.1, e2.2, C2_sh x⟩) (AllT.cons (shF (C3_sh x)) (AllT.cons (shF (SlPane.shape_row _ _)) (AllT.one' (pB_iff.2 ⟨rfl, d0, d1, e3.1, e3.2, C3_sh x⟩))))))))))))
theorem ng_false {x : FD} (h : Sm x) : ng x = false := by
  obtain ⟨a0, _⟩ := h.a
  obtain ⟨b0, _⟩ := h.b
  obtain ⟨c0, _⟩ := h.c
  obtain ⟨d0, _⟩ := h.d
  unfold ng u4 u3 u2 u1
  exact decide_eq_false (by omega)
theorem oQ_ok {n : Int} {R : Int → List SC} (h0 : 0 ≤ n) (h1 : n ≤ 1048576) (hs : Shape SlFloat32.ts R) : AllT (oQ n R) := AllT.cons (shF hs) (AllT.cons (shF hs) (AllT.one' (okE1 h0 h1 hs)))
theorem oH_ok {n : Int} (R : Int → List SC) (h0 : 0 ≤ n) (h1 : n ≤ 1048576) : AllT (oH fops n R ++ oK n) := by
  refine AllT.app (AllT.cons (shF (SlFloat32.shape_row _ _)) (AllT.one' (pB_iff.2 ⟨rfl, h0, h1, by decide, by decide, SlFloat32.mkR_marked _ _ _⟩))) (AllT.cons ?_ (AllT.one' (by simp)))
  rw [decide_eq_false (by omega : ¬ 1 + 1 * n < 0)]; rfl
theorem oZ_ok {x : FD} (h : Sm x) (hz : decide (sz x < 0) = false) {Ss Si : List Bool} (hs : AllT Ss) (hi : AllT Si) : AllT (oZ fops x Ss Si) := by
  have c := oC_ok h
  unfold oZ
  rw [hz, eqF_true, ng_false h]
  have em := oM_ok h
  have ee := oE_ok h fops
  simp only [AllT.iffApp]
  repeat' refine And.intro ?_ ?_
  all_goals first | assumption | exact AllT.one' rfl
theorem oB_ok {x : FD} (h : Sm x) (hz : decide (sz x < 0) = false) {t u : Nat} (hv : vF fops x.fl = true) (hr : rI fops t u = false) : AllT (oB fops isNum x t u) := by
  have c := oC_ok h
  have v := oV_ok h
  obtain ⟨ht, hu⟩ := rI_false hr
  have hs : Shape SlFloat32.ts (fR fops x t u) := SlFloat32.shape_row (fun _ j => flows fops x.fl t u j) (fun _ _ => 0)
  have w : AllT (oW fops x t u) := AllT.cons (shF (C3_sh x)) (AllT.cons (shF (C2_sh x)) (AllT.cons (shF (C1_sh x)) (AllT.cons (shF (C0_sh x)) (AllT.cons (shF hs) (AllT.cons (fl_ok h) (AllT.one' (pB_iff.2 (v_SD hv))))))))
  have n : AllT (oN isNum x.n0 (fR fops x t u)) := AllT.cons (shF hs) (AllT.cons (pB_iff.2 ⟨rfl, h.a.1, h.a.2, hs⟩) (AllT.one' (by rw [show Fnr.finN isNum x.n0 (fR fops x t u) = true from flows_fin hv h.c.1 h.d.1 ht hu]; rfl)))
  have S : AllT (oS fops x t u) := AllT.app (AllT.app v (AllT.cons (by rw [hv]; rfl) (AllT.one' (by rw [wS_eq, hr]; rfl)))) w
  have I : AllT (oI fops isNum x t u) := AllT.app (AllT.app (AllT.app v (AllT.cons (by rw [hv]; rfl) (AllT.one' (by rw [hr]; rfl)))) w) n
  have q := oQ_ok h.a.1 h.a.2 hs
  have e : tT fops x.n0 (fR fops x t u) = false := by unfold tT eqQ; rw [SlFloat32.eqR_self]; rfl
  have k := oH_ok (fR fops x t u) h.a.1 h.a.2
  have m : AllT [flatR (fR fops x t u), flatR (mR fops x.n0 (fR fops x t u)), SlFloat32.okM' x.n0 1 x.n0 (fR fops x t u)] := AllT.cons (shF hs) (AllT.cons (shF (SlFloat32.shape_row _ _)) (AllT.one' (pB_iff.2 ⟨rfl, h.a.1, h.a.2, by decide, by decide, hs⟩)))
  unfold oB
  rw [hz, eqF_true, ng_false h, e]
  obtain ⟨k1, k2⟩ := AllT.iffApp.1 k
  have em := oM_ok h
  have ee := oE_ok h fops
  simp only [AllT.iffApp]
  repeat' refine And.intro ?_ ?_
  all_goals first | assumption | exact AllT.one' rfl | exact gdB_ok fun _ => q
theorem law_all {x : FD} (hn : Nn x) (t u : Nat) : ∃ h hl ob, run fops isNum h hl (flA x) (rdA x) t u = some (.c (.bool .t), ob) ∧ AllT ob := by
  cases hz : decide (sz x < 0) with
  | true => exact ⟨_, _, _, run_big fops isNum x t u, AllT.one' hz⟩
  | false =>
    have h := sz_small hn hz
    have v := oV_ok h
    cases hv : vF fops x.fl with
    | false =>
      have s : AllT (oV x ++ [!vF fops x.fl]) := AllT.app v (AllT.one' (by rw [hv]; rfl))
      exact ⟨_, _, _, run_e1 fops isNum x t u, oZ_ok h hz s s⟩
    | true =>
      cases hr : rI fops t u with
      | true => exact ⟨_, _, _, run_e2 fops isNum x t u, oZ_ok h hz (AllT.app v (AllT.cons (by rw [hv]; rfl) (AllT.one' (by rw [wS_eq, hr]; rfl)))) (AllT.app v (AllT.cons (by rw [hv]; rfl) (AllT.one' hr)))⟩
      | false => exact ⟨_, _, _, run_ok fops isNum x t u, oB_ok h hz hv hr⟩
theorem law_all0 (t u : Nat) : ∃ h hl ob, run fops isNum h hl flA0 [] t u = some (.c (.bool .t), ob) ∧ AllT ob := ⟨_, _, _, run0 fops isNum t u, AllT.nil⟩
end
end Go.Proofs.Ytopliajfonpbcaa.Rfl
