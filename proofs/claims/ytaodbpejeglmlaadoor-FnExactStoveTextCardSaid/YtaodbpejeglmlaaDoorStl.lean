/- The text of a stove: the law. Nothing is assumed. -/
import Derived.Test.YtaodbpejeglmlaaDoorStx
namespace Go.Proofs.YtaodbpejeglmlaaDoor.Stx
open Go SlWood Stv Sto Jn Fm Wt
noncomputable section
/-! ### told by hand -/
def okT (n N s t : Int) (row : Int → List SC) : Bool := pB (N = n ∧ 0 ≤ n ∧ n ≤ 6 ∧ Shape ts row ∧ 0 ≤ s ∧ s < 4 ∧ 0 ≤ t ∧ t < 10000000)
theorem sn_size (s : Int) : (snT s).size ≤ 7 := by
  unfold snT
  cases decide (s = 0) <;> cases decide (s = 1) <;> cases decide (s = 2) <;> decide
theorem h6_size (a b c : Nat) : (h6 a b c).size = 33 := by
  unfold h6
  simp only [size_app, size_hex]
  rfl
theorem h8_size (a b : Nat) (s : Int) (c : Nat) : (h8 a b s c).size ≤ 41 := by
  unfold h8
  have := sn_size s
  have h1 : spT.size = 1 := rfl
  rw [size_app, size_app, h6_size, h1]; omega
theorem jn_eq (a b : Nat) (s t : Int) (c : Nat) : Jn.joinT (hdL a b s t c) spT = h8 a b s c ++ decT t := by
  refine ba_ext ?_
  rw [joinT_data]
  have e : stbT.data.toList = stT.data.toList ++ spT.data.toList := rfl
  unfold hdL h8 h6
  simp only [data_app, e, List.map_cons, List.map_nil, Go.Lib.join, List.intercalate, List.intersperse, List.flatten_cons, List.flatten_nil, List.append_nil, List.append_assoc]
theorem hd_eq (a b : Nat) (s t : Int) (c : Nat) : hdI a b s t c = hdS a b s t c := by
  unfold hdI hdS
  rw [jn_eq]
theorem hd_size (a b : Nat) (s : Int) {t : Int} (h0 : 0 ≤ t) (h1 : t < 10000000) (c : Nat) : (hdS a b s t c).size ≤ 1000 := by
  unfold hdS
  have := h8_size a b s c
  have := decT_size h0 h1
  rw [size_app, size_app, nl_size]; omega
theorem jnOk (a b : Nat) (s : Int) {t : Int} (h0 : 0 ≤ t) (h1 : t < 10000000) (c : Nat) : Jn.joinOk (hdL a b s t c) spT = true := by
  refine decide_eq_true ⟨by simp [hdL], ?_⟩
  have e : (Go.Lib.join ((hdL a b s t c).map (·.data.toList)) spT.data.toList) = (h8 a b s c ++ decT t).data.toList := by
    rw [← jn_eq, ← joinT_data]
  rw [e]
  have e2 : (h8 a b s c ++ decT t).data.toList.length = (h8 a b s c ++ decT t).size := rfl
  have := h8_size a b s c
  have := decT_size h0 h1
  rw [e2, size_app]; omega
theorem obI_ok (a b : Nat) {s t : Int} (hs : 0 ≤ s ∧ s < 4) (h0 : 0 ≤ t) (h1 : t < 10000000) (c : Nat) : AllT [in4 s, okF t, Jn.joinOk (hdL a b s t c) spT, sm (Jn.joinT (hdL a b s t c) spT) nlT] := by
  have := h8_size a b s c
  have := decT_size h0 h1
  refine AllT.cons (decide_eq_true hs) (AllT.cons (decide_eq_true ⟨h0, h1⟩) (AllT.cons (jnOk a b s h0 h1 c) (AllT.one' ?_)))
  rw [jn_eq]
  exact sm_ok (by rw [size_app, nl_size]; omega)
theorem obH_ok (a b : Nat) {s t : Int} (hs : 0 ≤ s ∧ s < 4) (h0 : 0 ≤ t) (h1 : t < 10000000) (c : Nat) : AllT (obH a b s t c) := by
  have e8 := h8_size a b s c
  have e7 := decT_size h0 h1
  have e6 := sn_size s
  have e1 : spT.size = 1 := rfl
  unfold obH
  rw [show in4 s = true from decide_eq_true hs, decide_eq_true (show 0 ≤ t ∧ t < 10000000 from ⟨h0, h1⟩), show sm (h6 a b c) (snT s) = true from sm_ok (by rw [h6_size]; omega), show sm (h6 a b c ++ snT s) spT = true from sm_ok (by rw [size_app, h6_size, e1]; omega),
    show sm (h8 a b s c) (decT t) = true from sm_ok (by omega), show sm (h8 a b s c ++ decT t) nlT = true from sm_ok (by rw [size_app, nl_size]; omega)]
  intro x hx
  simp at hx
  exact hx
def sxT (n : Int) (row : Int → List SC) (a b : Nat) (s t : Int) (c : Nat) : ByteArray := txt (hdS a b s t c) (datF row) n.toNat
def tIH : CS := fun base args rd => match args with
  | [.a [.sl i o es (.s n) _, .flt .f32 a, .flt .f32 b, .int .i8 (.s s), .int .i64 (.s t), .flt .f32 c]] => match rd with
    | [(j, ⟨_, _, .rows st N row⟩)] => match Nat.beq base 2 && (Nat.beq i 1 && (Nat.beq o 0 && (Nat.beq es 18 && (Nat.beq j 1 && Nat.beq st 18)))) with
      | true => some ⟨.c (.str (sxT n row a b s t c)), [], 60, [okT n N s t row]⟩
      | false => none
    | _ => none
  | _ => none
def tSH : CS := fun base args rd => match args with
  | [.c (.ptr i' o')] => match rd with
    | [(j, ⟨_, _, .rows st N row⟩), (j', ⟨_, _, .cells [.sl i o es (.s n) _, .flt .f32 a, .flt .f32 b, .int .i8 (.s s), .int .i64 (.s t), .flt .f32 c]⟩)] =>
      match Nat.beq base 3 && (Nat.beq i' 2 && (Nat.beq o' 0 && (Nat.beq j' 2 && (Nat.beq i 1 && (Nat.beq o 0 && (Nat.beq es 18 && (Nat.beq j 1 && Nat.beq st 18))))))) with
      | true => some ⟨.c (.str (sxT n row a b s t c)), [], 60, [okT n N s t row]⟩
      | false => none
    | _ => none
  | _ => none
def tIC (O : FOps) : CS := orS (canS tIH) (inl (cxS O) Tryd.f26 noH)
def tSC (O : FOps) : CS := orS (canS tSH) (inl (cxS O) Tryd.f23 noH)
set_option maxRecDepth 100000 in
theorem cTI : CallOK Tryd.prog 26 (tIC fops) :=
  (CallOK.hand (H := tIH) cI0.ro fun b args rd e h hob => by
    unfold tIH at h
    split at h <;> try (cases h; done)
    rename_i i o es n f xa xb s t xc
    split at h <;> try (cases h; done)
    rename_i j w p st N row
    split at h <;> cases h
    rename_i hc
    simp only [Bool.and_eq_true, beqN] at hc
    obtain ⟨rfl, rfl, rfl, rfl, rfl, rfl⟩ := hc
    obtain ⟨rfl, h0, h6, hs, s0, s1, t0, t1⟩ := pB_iff.1 hob.head
    unfold sxT
    rw [← hd_eq]
    refine ⟨_, I_run fops f w p N N row xa xb s t xc, ?_⟩
    have hh : (hdI xa xb s t xc).size ≤ 1000 := by rw [hd_eq]; exact hd_size xa xb s t0 t1 xc
    exact AllT.app (obI_ok xa xb ⟨s0, s1⟩ t0 t1 xc) (AllT.cons (shape_flat hs) (AllT.one' (pB_iff.2 ⟨rfl, rfl, rfl, h0, hs, h6, hh⟩)))).can.or
    (inlN_of (l := Ls) okLs mixed 8 Tryd.func26 (by kernel_rfl) (fun _ => none))
set_option maxRecDepth 100000 in
theorem cTS : CallOK Tryd.prog 23 (tSC fops) :=
  (CallOK.hand (H := tSH) cS0.ro fun b args rd e h hob => by
    unfold tSH at h
    split at h <;> try (cases h; done)
    rename_i i' o'
    split at h <;> try (cases h; done)
    rename_i j w p st N row j' w' p' i o es n f xa xb s t xc
    split at h <;> cases h
    rename_i hc
    simp only [Bool.and_eq_true, beqN] at hc
    obtain ⟨rfl, rfl, rfl, rfl, rfl, rfl, rfl, rfl, rfl⟩ := hc
    obtain ⟨rfl, h0, h6, hs, s0, s1, t0, t1⟩ := pB_iff.1 hob.head
    exact ⟨_, S_run fops f w p w' p' N N row xa xb s t xc, AllT.app (obH_ok xa xb ⟨s0, s1⟩ t0 t1 xc) (AllT.cons (shape_flat hs) (AllT.one' (pB_iff.2 ⟨rfl, rfl, rfl, h0, hs, h6, hd_size xa xb s t0 t1 xc⟩)))⟩).can.or
    (inlN_of (l := Ls) okLs mixed 8 Tryd.func23 (by kernel_rfl) (fun _ => none))
/-! ### the law's runs -/
def LX (O : FOps) (vl : (Nat → Nat) → Bool) : List (Nat × CS) := [(46, amtS), (38, amtS), (76, absS), (28, gS (sfG O)), (24, toC O), (27, eqC O), (25, vIC O vl), (22, vSC O vl), (26, tIC O), (23, tSC O)]
set_option maxRecDepth 100000 in
theorem okLX : AllOK Tryd.prog (LX fops valid) := ⟨cAmtI, cAmtL, cAbs, cSf, cToC, cEqC, cVIC, cVSC, cTI, cTS, trivial⟩
def L3 (O : FOps) (vl : (Nat → Nat) → Bool) (_ : Unit) : List (Nat × CS) := LX O vl
theorem okL3 (u : Unit) : AllOK Tryd.prog (L3 fops valid u) := okLX
def hLaw : List (Nat × Bool) := [(11, false), (21, false), (26, false)]
def run (O : FOps) (vl : (Nat → Nat) → Bool) (u : Unit) (hl : List (Nat × Bool)) (v : SV) (rd : List (Nat × Seg)) : Option (SV × List Bool) :=
  rE 2 (inl ⟨Tryd.prog, O, orcN Tryd.prog O (L3 O vl u) 8⟩ Tryd.f4 ⟨hints hl, fun _ => none⟩ 2 [v] rd)
def oT (n s t : Int) (row : Int → List SC) (v : Bool) : List Bool := oV n s row ++ gdB (!v) [flatR row, okT n n s t row]
def X (n : Int) (row : Int → List SC) (a b : Nat) (s t : Int) (c : Nat) (v : Bool) : List UInt8 := (bif !v then eT else sxT n row a b s t c).toList
def ob (O : FOps) (F : Nat → Int → Nat) (G : Nat → Int → Int) (n : Int) (a b : Nat) (s t : Int) (c : Nat) (v : Bool) : List Bool :=
  [!decide (lf n < 0)] ++ (oC F G n ++ oT n s t (R1 F G n) v) ++ (oC F G n ++ oT n s t (R1 F G n) v) ++ [!!(X n (R1 F G n) a b s t c v == X n (R1 F G n) a b s t c v)] ++
  oC F G n ++ oE n (R1 F G n) (R1 F G n) ++ [!!eqT O (eqR O n n (R1 F G n) (R1 F G n)) a b s t c]
set_option maxRecDepth 100000 in
theorem run_ok (O : FOps) (vl : (Nat → Nat) → Bool) (F : Nat → Int → Nat) (G : Nat → Int → Int) (n : Int) (a b : Nat) (s t : Int) (c : Nat) :
    run O vl () hLaw (stA n a b s t c) [(1, ⟨false, false, .rows 18 n (Row F G)⟩)] = some (.c (.bool .t), ob O F G n a b s t c (vR O vl n (R1 F G n) a b s t c)) := by kernel_rfl
set_option maxRecDepth 100000 in
theorem run_big (O : FOps) (vl : (Nat → Nat) → Bool) (F : Nat → Int → Nat) (G : Nat → Int → Int) (n : Int) (a b : Nat) (s t : Int) (c : Nat) :
    run O vl () [(11, true)] (stA n a b s t c) [(1, ⟨false, false, .rows 18 n (Row F G)⟩)] = some (.c (.bool .t), [decide (lf n < 0)]) := by kernel_rfl
def X0 (h : ByteArray) (v : Bool) : List UInt8 := (bif !v then eT else h).toList
def ob0 (O : FOps) (a b : Nat) (s t : Int) (c : Nat) : List Bool :=
  gdB (!vS O true 0 a b s t c) (obH a b s t c) ++ gdB (!vI O true 0 a b s t c) [in4 s, okF t, Jn.joinOk (hdL a b s t c) spT, sm (Jn.joinT (hdL a b s t c) spT) nlT] ++
  [!!(X0 (hdI a b s t c) (vI O true 0 a b s t c) == X0 (hdS a b s t c) (vS O true 0 a b s t c)), !!eqT O true a b s t c]
set_option maxRecDepth 100000 in
theorem run0_ok (O : FOps) (vl : (Nat → Nat) → Bool) (a b : Nat) (s t : Int) (c : Nat) :
    run O vl () hLaw (st0 a b s t c) [] = some (.c (.bool .t), ob0 O a b s t c) := by kernel_rfl
theorem vI_in {O : FOps} {Q : Bool} {n : Int} {a b : Nat} {s t : Int} {c : Nat} (h : vI O Q n a b s t c = true) : n ≤ 6 ∧ 0 ≤ s ∧ s < 4 ∧ 0 ≤ t ∧ t < 10000000 := by
  unfold vI at h
  by_cases h6 : 6 < n
  · rw [decide_eq_true h6] at h; cases h
  rw [decide_eq_false h6] at h
  cases Q with
  | false => cases h
  | true =>
    cases hA : (bif O.cmp .geq .f32 a 3262119936 then O.cmp .leq .f32 a 1153138688 else false) with
    | false => rw [hA] at h; cases h
    | true =>
      rw [hA] at h
      cases hB : shr O b with
      | false => rw [hB] at h; cases h
      | true =>
        rw [hB] at h
        by_cases s0 : 0 ≤ s
        · by_cases s1 : s ≤ 3
          · by_cases t0 : 0 ≤ t
            · by_cases t1 : t ≤ 1000000
              · exact ⟨by omega, s0, by omega, t0, by omega⟩
              · rw [decide_eq_true s0, decide_eq_true s1, decide_eq_true t0, decide_eq_false t1] at h; cases h
            · rw [decide_eq_true s0, decide_eq_true s1, decide_eq_false t0] at h; cases h
          · rw [decide_eq_true s0, decide_eq_false s1] at h; cases h
        · rw [decide_eq_false s0] at h; cases h
theorem law_all (F : Nat → Int → Nat) (G : Nat → Int → Int) {n : Int} (h0 : 0 ≤ n) (hmax : n ≤ 9223372036854775807) (a b : Nat) {s : Int} (hs : -128 ≤ s ∧ s ≤ 127) (t : Int) (c : Nat) :
    ∃ h hl o, run fops valid h hl (stA n a b s t c) [(1, ⟨false, false, .rows 18 n (Row F G)⟩)] = some (.c (.bool .t), o) ∧ AllT o := by
  by_cases hbig : 1048576 < n
  · exact ⟨_, _, _, run_big fops valid F G n a b s t c, AllT.one (lf_big hbig hmax)⟩
  · have h1 : n ≤ 1048576 := by omega
    have hr := r1_shape F G n
    have hS : AllT (oT n s t (R1 F G n) (vR fops valid n (R1 F G n) a b s t c)) := by
      unfold oT
      refine AllT.app (oV_ok hr h0 h1 hs) (gdB_ok fun hv => ?_)
      have hv' : vR fops valid n (R1 F G n) a b s t c = true := by simpa using hv
      unfold vR at hv'
      obtain ⟨k1, k2, k3, k4, k5⟩ := vI_in hv'
      exact AllT.cons (shape_flat hr) (AllT.one (pB_iff.2 ⟨rfl, h0, k1, hr, k2, k3, k4, k5⟩))
    have cc := oC_ok F G h0 h1
    have e := oE_ok hr hr h0 h1
    refine ⟨_, _, _, run_ok fops valid F G n a b s t c, ?_⟩
    unfold ob
    rw [eqT_q, lf_small h0 h1]
    simp only [AllT.iff_app]
    exact ⟨⟨⟨⟨⟨⟨AllT.one rfl, cc, hS⟩, cc, hS⟩, AllT.one (by simp)⟩, cc⟩, e⟩, AllT.one rfl⟩
theorem law_all0 (a b : Nat) {s : Int} (hs : -128 ≤ s ∧ s ≤ 127) (t : Int) (c : Nat) : ∃ h hl o, run fops valid h hl (st0 a b s t c) [] = some (.c (.bool .t), o) ∧ AllT o := by
  refine ⟨_, _, _, run0_ok fops valid a b s t c, ?_⟩
  unfold ob0
  rw [v0_eq a b hs t c, eqT_true rfl, hd_eq]
  simp only [AllT.iff_app]
  refine ⟨⟨gdB_ok fun hv => ?_, gdB_ok fun hv => ?_⟩, AllT.cons (by simp) (AllT.one rfl)⟩
  · obtain ⟨k1, k2, k3, k4, k5⟩ := vI_in (show vI fops true 0 a b s t c = true by simpa using hv)
    exact obH_ok a b ⟨k2, k3⟩ k4 k5 c
  · obtain ⟨k1, k2, k3, k4, k5⟩ := vI_in (show vI fops true 0 a b s t c = true by simpa using hv)
    exact obI_ok a b ⟨k2, k3⟩ k4 k5 c
end
end Go.Proofs.YtaodbpejeglmlaaDoor.Stx
