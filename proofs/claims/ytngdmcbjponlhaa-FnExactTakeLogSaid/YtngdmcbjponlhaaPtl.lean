/- The law of PutLog: what its text computes, with any number of logs. Nothing is assumed. -/
import Derived.Test.YtngdmcbjponlhaaSto
namespace Go.Proofs.Ytngdmcbjponlhaa.Ptl
open Go SlWood Stv Sto
noncomputable section
abbrev HH := List (Nat × Bool) × List (Nat × Bool)
def hOK : HH := ([(13, false), (18, false)], [(12, false), (17, false)])
def hErr : HH := ([(18, true)], [(17, true)])
def hLaw : List (Nat × Bool) := [(20, false), (46, false), (51, false), (67, false), (75, false), (78, false), (95, false), (100, false), (103, false)]
def LP (O : FOps) (vl : (Nat → Nat) → Bool) : List (Nat × CS) := (58, gS (validG vl)) :: (72, gQ [.p 18] (validG vl)) :: LW O vl
set_option maxRecDepth 100000 in
theorem okLP : AllOK Try.prog (LP fops valid) := ⟨cValI, cValS, okLW⟩
def cIh (O : FOps) (vl : (Nat → Nat) → Bool) (h : HH) : CS := inl ⟨Try.prog, O, orcN Try.prog O (LP O vl) 8⟩ Try.f37 ⟨hint h.1, fun _ => none⟩
def cSh (O : FOps) (vl : (Nat → Nat) → Bool) (h : HH) : CS := inl ⟨Try.prog, O, orcN Try.prog O (LP O vl) 8⟩ Try.f35 ⟨hint h.2, fun _ => none⟩
def L3 (O : FOps) (vl : (Nat → Nat) → Bool) (h : HH) : List (Nat × CS) := (37, cIh O vl h) :: (35, cSh O vl h) :: LW O vl
set_option maxRecDepth 100000 in
theorem okL3 (h : HH) : AllOK Try.prog (L3 fops valid h) :=
  ⟨inlN_of (l := LP fops valid) okLP mixed 8 Try.func37 (by kernel_rfl) _, inlN_of (l := LP fops valid) okLP mixed 8 Try.func35 (by kernel_rfl) _, okLW⟩
def run (O : FOps) (vl : (Nat → Nat) → Bool) (h : HH) (hl : List (Nat × Bool)) (v : SV) (rd : List (Nat × Seg)) (w : Nat → Nat) : Option (SV × List Bool) :=
  rE 2 (inl ⟨Try.prog, O, orcN Try.prog O (L3 O vl h) 8⟩ Try.f9 ⟨hint hl, fun _ => none⟩ 2 [v, wd w] rd)
/-- The rows, with one more. -/
def kR (n : Int) (R : Int → List SC) (w : Nat → Nat) (j : Int) : List SC := bif decide (j < n) then R j else wdL w
def oA2 (n : Int) : List Bool := [decide (0 ≤ n ∧ n ≤ n ∧ n ≤ 999999)]
def okv (vl : (Nat → Nat) → Bool) (V : Bool) (w : Nat → Nat) : Bool := bif !V then true else !vl (back w)
def sOK (O : FOps) (vl : (Nat → Nat) → Bool) (R : Int → List SC) (n : Int) (a b : Nat) (s t : Int) (c : Nat) (w : Nat → Nat) : List Bool := oV n s R ++ [!okv vl (vR O vl n R a b s t c) w, !decide (n = 6)] ++ oA n ++ oA2 n
def tOK (E : Bool) : Bool := bif !E then true else false
set_option maxRecDepth 100000 in
theorem run_ok (O : FOps) (vl : (Nat → Nat) → Bool) (F : Nat → Int → Nat) (G : Nat → Int → Int) (n : Int) (a b : Nat) (s t : Int) (c : Nat) (w : Nat → Nat) :
    run O vl hOK hLaw (stA n a b s t c) [(1, ⟨false, false, .rows 18 n (Row F G)⟩)] w = some (.c (.bool .t), obH O F G n (sOK O vl (R1 F G n) n a b s t c w) (sOK O vl (R1 F G n) n a b s t c w) (n + 1) (n + 1) (n + 1) (kR n (R1 F G n) w) (kR n (R1 F G n) w) (tOK (eqT O (eqR O (n + 1) (n + 1) (kR n (R1 F G n) w) (kR n (R1 F G n) w)) a b s t c)) (eqT O (eqR O n n (R1 F G n) (R1 F G n)) a b s t c)) := by kernel_rfl
def cde (P : Bool) : Int := bif P then 1 else 3
def zf (P : Bool) : Nat := bif P then 0 else 0
def tz (O : FOps) (P Q : Bool) : Bool := bif !eqT0 O (zf P) (zf Q) then true else !decide (cde P = cde Q)
def sErr (O : FOps) (vl : (Nat → Nat) → Bool) (R : Int → List SC) (n : Int) (a b : Nat) (s t : Int) (c : Nat) (w : Nat → Nat) : List Bool := oV n s R ++ gdB (okv vl (vR O vl n R a b s t c) w) [decide (n = 6)]
set_option maxRecDepth 100000 in
theorem run_err (O : FOps) (vl : (Nat → Nat) → Bool) (F : Nat → Int → Nat) (G : Nat → Int → Int) (n : Int) (a b : Nat) (s t : Int) (c : Nat) (w : Nat → Nat) :
    run O vl hErr hLaw (stA n a b s t c) [(1, ⟨false, false, .rows 18 n (Row F G)⟩)] w = some (.c (.bool .t), obGe O F G n (sErr O vl (R1 F G n) n a b s t c w) (sErr O vl (R1 F G n) n a b s t c w) (tz O (okv vl (vR O vl n (R1 F G n) a b s t c) w) (okv vl (vR O vl n (R1 F G n) a b s t c) w)) (eqT O (eqR O n n (R1 F G n) (R1 F G n)) a b s t c)) := by kernel_rfl
set_option maxRecDepth 100000 in
theorem run_big (O : FOps) (vl : (Nat → Nat) → Bool) (F : Nat → Int → Nat) (G : Nat → Int → Int) (n : Int) (a b : Nat) (s t : Int) (c : Nat) (w : Nat → Nat) :
    run O vl hOK [(20, true)] (stA n a b s t c) [(1, ⟨false, false, .rows 18 n (Row F G)⟩)] w = some (.c (.bool .t), [decide (lf n < 0)]) := by kernel_rfl
def hqf (O : FOps) : Nat → Int → Int
  | 0, k => k
  | m + 1, k => bif O.cmp .neq .f32 (O.ofInt .f32 k) (O.ofInt .f32 k) then -1 else hqf O m (k + 1)
def q0 (O : FOps) : Int := bif decide (hqf O 18 1 < 0) then -1 else hqf O 18 1
def oQ0 (O : FOps) : List Bool := [!decide (q0 O < 0), !!decide (q0 O = 19)]
def e1 (O : FOps) (w : Nat → Nat) : Bool := bif !eqW O (back w) (back w) then false else true
def ob1 (Ss Si : List Bool) (T E : Bool) (q : List Bool) : List Bool := Ss ++ Si ++ [!T, !!E, !T] ++ q ++ Si ++ [!T] ++ q
set_option maxRecDepth 100000 in
theorem run0_ok (O : FOps) (vl : (Nat → Nat) → Bool) (a b : Nat) (s t : Int) (c : Nat) (w : Nat → Nat) :
    run O vl hOK hLaw (st0 a b s t c) [] w = some (.c (.bool .t), ob1 [!okv vl (vS O true 0 a b s t c) w] [!okv vl (vI O true 0 a b s t c) w] (tOK (eqT O (e1 O w) a b s t c)) (eqT O true a b s t c) (oQ0 O)) := by kernel_rfl
set_option maxRecDepth 100000 in
theorem run0_err (O : FOps) (vl : (Nat → Nat) → Bool) (a b : Nat) (s t : Int) (c : Nat) (w : Nat → Nat) :
    run O vl ([(13, true)], [(12, true)]) hLaw (st0 a b s t c) [] w = some (.c (.bool .t), ob0 [okv vl (vS O true 0 a b s t c) w] [okv vl (vI O true 0 a b s t c) w] (bif !eqT0 O 0 0 then true else false) (eqT O true a b s t c)) := by kernel_rfl
theorem tz_false (P : Bool) : tz fops P P = false := by
  unfold tz
  rw [eqT0_true]
  simp
theorem hqf_eq : ∀ (m : Nat) (k : Int), hqf fops m k = k + m
  | 0, k => by simp [hqf]
  | m + 1, k => by
    unfold hqf
    rw [cmp_neq_self, int_num, hqf_eq m (k + 1)]
    simp only [cond_false]
    omega
theorem oQ0_ok : AllT (oQ0 fops) := by
  unfold oQ0 q0
  rw [hqf_eq]
  exact AllT.cons (by decide) (AllT.one (by decide))
theorem e1_true (w : Nat → Nat) : e1 fops w = true := by
  unfold e1
  rw [eqW_self]
  rfl
set_option maxRecDepth 100000 in
theorem shape_of {row : Int → List SC} (h : ∀ j, ∃ F G, row j = Row F G j) : Shape ts row := by
  funext j
  obtain ⟨F, G, e⟩ := h j
  show row j = mkL (fun c => fltC ((row j).getD c .any)) (fun c => intC ((row j).getD c .any)) (fun _ => true) ts 0
  rw [e]
  kernel_rfl
theorem kR_shape {R : Int → List SC} (h : Shape ts R) (n : Int) (w : Nat → Nat) : Shape ts (kR n R w) := shape_of fun j => by
  unfold kR
  cases decide (j < n) with
  | true => exact ⟨datF R, datG R, by rw [cond_true]; exact congrFun h j⟩
  | false => exact ⟨fun c _ => w c, fun _ _ => 0, by rw [cond_false]; kernel_rfl⟩
theorem ob1_ok {Ss Si : List Bool} (hs : AllT Ss) (hi : AllT Si) {T E : Bool} (hT : T = false) (hE : E = true) {q : List Bool} (hq : AllT q) : AllT (ob1 Ss Si T E q) := by
  unfold ob1
  rw [hT, hE]
  simp only [AllT.iff_app]
  exact ⟨⟨⟨⟨⟨⟨hs, hi⟩, AllT.cons rfl (AllT.cons rfl (AllT.cons rfl AllT.nil))⟩, hq⟩, hi⟩, AllT.one rfl⟩, hq⟩
theorem okv_iff {vl : (Nat → Nat) → Bool} {V : Bool} {w : Nat → Nat} (h : okv vl V w = false) : V = true := by
  unfold okv at h
  cases V with
  | true => rfl
  | false => cases h
theorem law_all (F : Nat → Int → Nat) (G : Nat → Int → Int) {n : Int} (h0 : 0 ≤ n) (hmax : n ≤ 9223372036854775807) (a b : Nat) {s : Int} (hs : -128 ≤ s ∧ s ≤ 127) (t : Int) (c : Nat) (w : Nat → Nat) :
    ∃ h hl ob, run fops valid h hl (stA n a b s t c) [(1, ⟨false, false, .rows 18 n (Row F G)⟩)] w = some (.c (.bool .t), ob) ∧ AllT ob := by
  by_cases hbig : 1048576 < n
  · exact ⟨_, _, _, run_big fops valid F G n a b s t c w, AllT.one (lf_big hbig hmax)⟩
  · have h1 : n ≤ 1048576 := by omega
    have hv := oV_ok (r1_shape F G n) h0 h1 hs
    by_cases hOK : okv valid (vR fops valid n (R1 F G n) a b s t c) w = false ∧ n ≠ 6
    · obtain ⟨hV, hn⟩ := hOK
      have h6 := vR_six (okv_iff hV)
      have hS : AllT (sOK fops valid (R1 F G n) n a b s t c w) := by
        unfold sOK
        refine AllT.app (AllT.app (AllT.app hv (AllT.cons (by rw [hV]; rfl) (AllT.one (by simpa using hn)))) (oA_ok h0 h6)) (AllT.one ?_)
        simp; omega
      have hk := kR_shape (r1_shape F G n) n w
      exact ⟨_, _, _, run_ok fops valid F G n a b s t c w, obH_ok F G h0 h1 hS hS (by omega) (by omega) rfl rfl hk hk (by unfold tOK; rw [eqT_q]; rfl) (eqT_q _ _ _ _ _ _ _)⟩
    · have hS : AllT (sErr fops valid (R1 F G n) n a b s t c w) := by
        unfold sErr
        refine AllT.app hv (gd1 fun e1 => ?_)
        by_cases hn : n = 6
        · simpa using hn
        · exact absurd ⟨e1, hn⟩ hOK
      exact ⟨_, _, _, run_err fops valid F G n a b s t c w, obGe_ok F G h0 h1 hS hS (tz_false _) (eqT_q _ _ _ _ _ _ _)⟩
theorem law_all0 (a b : Nat) {s : Int} (hs : -128 ≤ s ∧ s ≤ 127) (t : Int) (c : Nat) (w : Nat → Nat) : ∃ h hl ob, run fops valid h hl (st0 a b s t c) [] w = some (.c (.bool .t), ob) ∧ AllT ob := by
  have hv := v0_eq a b hs t c
  cases hV : okv valid (vI fops true 0 a b s t c) w with
  | false =>
    have hW : okv valid (vS fops true 0 a b s t c) w = false := by rw [hv]; exact hV
    exact ⟨_, _, _, run0_ok fops valid a b s t c w, ob1_ok (AllT.one (by rw [hW]; rfl)) (AllT.one (by rw [hV]; rfl)) (by unfold tOK; rw [eqT_true (e1_true w)]; rfl) (eqT_true rfl _ _ _ _ _) oQ0_ok⟩
  | true =>
    have hW : okv valid (vS fops true 0 a b s t c) w = true := by rw [hv]; exact hV
    exact ⟨_, _, _, run0_err fops valid a b s t c w, ob0_ok (AllT.one hW) (AllT.one hV) (by rw [eqT0_true]; rfl) (eqT_true rfl _ _ _ _ _)⟩
end
end Go.Proofs.Ytngdmcbjponlhaa.Ptl
