/- An amount is a word below that of infinity. Nothing is assumed. -/
import Derived.Test.YtaodbpejeglmlaaDoorAbs
namespace Go.Proofs.YtaodbpejeglmlaaDoor
open Go

def amtS : CS := fun base args rd => match args, rd with
  | [.c (.flt .f32 x)], [] => some ⟨.c (.bool (.s (decide (x < 2139095040)))), [], base, []⟩
  | _, _ => none
noncomputable def infI (O : FOps) (x : Nat) : Bool := bif O.cmp .neq .f64 (O.conv .f32 .f64 x) (O.conv .f32 .f64 x) then true else O.cmp .gtr .f64 (O.conv .f32 .f64 x % 9223372036854775808) 9218868437227405311
noncomputable def amtI (O : FOps) (x : Nat) : CEff :=
  ⟨.c (.bool (.s (bif (bif infI O x then false else true) then (bif O.cmp .geq .f32 x 0 then decide ((x : Int).fdiv 2147483648 = 0) else false) else false))), [], 2,
    [!(bif infI O x then false else true) || (!O.cmp .geq .f32 x 0 || !Nat.beq x (qnan .f32))]⟩
noncomputable def amtL (O : FOps) (x : Nat) : CEff :=
  ⟨.c (.bool (.s (bif O.cmp .eql .f32 (O.bin .sub .f32 x x) 0 then (bif O.cmp .gtr .f32 x 0 then true else decide ((x : Int) = 0)) else false))), [], 1,
    [!O.cmp .eql .f32 (O.bin .sub .f32 x x) 0 || (O.cmp .gtr .f32 x 0 || !Nat.beq x (qnan .f32))]⟩
set_option maxRecDepth 100000 in
theorem amtI_run (O : FOps) (x : Nat) : inl ⟨Tryd.prog, O, orcN Tryd.prog O [(57, bits32S), (76, absS)] 8⟩ Tryd.f46 ⟨fun _ => none, fun _ => none⟩ 1 [.c (.flt .f32 x)] [] = some (amtI O x) := by kernel_rfl
set_option maxRecDepth 100000 in
theorem amtL_run (O : FOps) (x : Nat) : inl ⟨Tryd.prog, O, orcN Tryd.prog O [(57, bits32S), (76, absS)] 8⟩ Tryd.f38 ⟨fun _ => none, fun _ => none⟩ 1 [.c (.flt .f32 x)] [] = some (amtL O x) := by kernel_rfl

/-! ### the law of it -/
def isNum (x : Nat) : Bool := match FloatKind.f32.format.read x with
  | .number _ _ _ => true
  | _ => false
theorem s32 : FloatKind.f32.format.signWeight = 2147483648 := by decide +kernel
theorem i32 : FloatKind.f32.format.infRung = 2139095040 := by decide +kernel
theorem s64 : FloatKind.f64.format.signWeight = 9223372036854775808 := by decide +kernel
theorem i64 : FloatKind.f64.format.infRung = 9218868437227405312 := by decide +kernel
theorem isNum_eq {x : Nat} (hx : Cn .f32 x) : isNum x = decide (x % 2147483648 < 2139095040) := by
  unfold isNum
  cases hn : nanb .f32 x with
  | true =>
    have hq := hx.nan
    rw [hn] at hq
    have : x = 2143289344 := beqN.1 hq.symm
    subst this
    decide +kernel
  | false =>
    rcases read_cases .f32 x hn with ⟨m, e, h1, _, _, h4⟩ | ⟨h1, h4⟩
    · rw [h1]
      unfold rung at h4
      rw [s32, i32] at h4
      simp [h4]
    · rw [h1]
      unfold rung at h4
      rw [s32, i32] at h4
      simp [h4]
theorem key32 {x : Nat} (hx : Cn .f32 x) : key .f32 x = if x < 2147483648 then (x : Int) else -((x - 2147483648 : Nat) : Int) := by
  have hlt : x < 4294967296 := hx.lt
  unfold key negB rung
  rw [s32]
  split
  · rename_i h
    have h1 : x / 2147483648 = 0 := Nat.div_eq_of_lt h
    simp [h1, Nat.mod_eq_of_lt h]
  · rename_i h
    have h1 : x / 2147483648 = 1 := by omega
    simp [h1]; omega
theorem sub_self {x : Nat} : fops.bin .sub .f32 x x = if isNum x then 0 else qnan .f32 := by
  show ((((FloatKind.f32.format.read x).sum (FloatKind.f32.format.read x).opposite).map FloatKind.f32.format.write)).getD (qnan .f32) = _
  unfold isNum
  cases FloatKind.f32.format.read x with
  | nan s t => simp [Ieee.Datum.opposite, Ieee.Datum.sum]
  | infinity s => cases s <;> simp [Ieee.Datum.opposite, Ieee.Datum.sum]
  | number s m e =>
    have h0 : Ieee.signed s m 0 + Ieee.signed (!s) m 0 = 0 := by cases s <;> simp [Ieee.signed] <;> omega
    simp only [Ieee.Datum.opposite, Ieee.Datum.sum, Int.min_self, Int.sub_self, Int.toNat_zero, h0]
    cases s <;> simp [Ieee.Format.write, Ieee.Format.nearest, Ieee.Format.word]
theorem fin_eq {x : Nat} : fops.cmp .eql .f32 (fops.bin .sub .f32 x x) 0 = isNum x := by
  rw [sub_self]
  cases isNum x
  · rw [if_neg (by simp), cmp_eql, show nanb .f32 (qnan .f32) = true from qnan_nan .f32]; rfl
  · rw [if_pos rfl, cmp_eql_self]; decide +kernel
theorem conv_num {x : Nat} (h : isNum x = true) : nanb .f64 (fops.conv .f32 .f64 x) = false ∧ fops.conv .f32 .f64 x % 9223372036854775808 < 9218868437227405312 := by
  unfold isNum at h
  cases hd : FloatKind.f32.format.read x with
  | nan s t => rw [hd] at h; cases h
  | infinity s => rw [hd] at h; cases h
  | number s m e =>
    have hd' : FloatKind.f32.decode x = .number s m e := hd
    have hf := conv_fin hd'
    have hc : fops.conv .f32 .f64 x = FloatKind.f64.encode (.number s m e) := by
      show (floatToFloatBits .f32 x .f64).getD (qnan .f64) = _
      unfold floatToFloatBits
      rw [if_neg (by decide), hd']
      simp [hf]
    have hn : nanb .f64 (FloatKind.f64.encode (.number s m e)) = false := write_not_nan FloatKind.f64.format (.number s m e) rfl
    rw [hc]
    refine ⟨hn, ?_⟩
    rcases read_cases .f64 _ hn with ⟨_, _, _, _, _, h4⟩ | ⟨h1, _⟩
    · unfold rung at h4
      rw [s64, i64] at h4; exact h4
    · unfold FloatKind.decode at hf
      rw [h1] at hf; cases hf
theorem conv_inf {x : Nat} {s : Bool} (h : FloatKind.f32.format.read x = .infinity s) : nanb .f64 (fops.conv .f32 .f64 x) = false ∧ fops.conv .f32 .f64 x % 9223372036854775808 = 9218868437227405312 := by
  have hd' : FloatKind.f32.decode x = .infinity s := h
  have hc : fops.conv .f32 .f64 x = FloatKind.f64.encode (.infinity s) := by
    show (floatToFloatBits .f32 x .f64).getD (qnan .f64) = _
    unfold floatToFloatBits
    rw [if_neg (by decide), hd']
    rfl
  rw [hc]
  cases s <;> decide +kernel
theorem conv_nan {x : Nat} (h : nanb .f32 x = true) : nanb .f64 (fops.conv .f32 .f64 x) = true := by
  have hc : fops.conv .f32 .f64 x = qnan .f64 := by
    show (floatToFloatBits .f32 x .f64).getD (qnan .f64) = _
    unfold floatToFloatBits
    rw [if_neg (by decide)]
    unfold nanb at h
    cases hd : FloatKind.f32.decode x <;> rw [hd] at h <;> simp [Ieee.Datum.isNaN] at h
    rfl
  rw [hc]; exact qnan_nan .f64
theorem key64 {x : Nat} (h : x < 9223372036854775808) : key .f64 x = x := by
  unfold key negB rung
  rw [s64]
  have h1 : x / 9223372036854775808 = 0 := Nat.div_eq_of_lt h
  simp [h1, Nat.mod_eq_of_lt h]
theorem infI_eq {x : Nat} : infI fops x = !isNum x := by
  unfold infI
  rw [cmp_neq_self]
  have nmax : nanb .f64 9218868437227405311 = false := by decide +kernel
  cases hn : nanb .f32 x with
  | true =>
    rw [conv_nan hn]
    unfold isNum
    unfold nanb FloatKind.decode at hn
    cases hd : FloatKind.f32.format.read x <;> rw [hd] at hn <;> simp [Ieee.Datum.isNaN] at hn
    rfl
  | false =>
    cases hi : isNum x with
    | true =>
      obtain ⟨h1, h2⟩ := conv_num hi
      rw [h1, cmp_gtr, nanb_mod h1, nmax, key64 (Nat.lt_trans h2 (by decide)), key64 (by decide)]
      simp; omega
    | false =>
      rcases read_cases .f32 x hn with ⟨m, e, h1, _⟩ | ⟨h1, _⟩
      · unfold isNum at hi; rw [h1] at hi; cases hi
      · obtain ⟨h3, h4⟩ := conv_inf h1
        rw [h3, cmp_gtr, nanb_mod h3, nmax, h4, key64 (by decide), key64 (by decide)]
        decide
theorem nan_num {x : Nat} (h : isNum x = true) : nanb .f32 x = false := by
  unfold isNum at h
  unfold nanb FloatKind.decode
  cases hd : FloatKind.f32.format.read x with
  | number s m e => rfl
  | infinity s => rw [hd] at h; cases h
  | nan s t => rw [hd] at h; cases h
theorem amt_cases {x : Nat} (hx : Cn .f32 x) : (isNum x = false ∧ ¬ x < 2139095040) ∨ (isNum x = true ∧ nanb .f32 x = false ∧ x < 2139095040) ∨ (isNum x = true ∧ nanb .f32 x = false ∧ 2147483648 ≤ x ∧ x < 4294967296) := by
  have hlt : x < 4294967296 := hx.lt
  cases h : isNum x
  · rw [isNum_eq hx] at h
    left
    refine ⟨rfl, fun h2 => ?_⟩
    have := of_decide_eq_false h
    omega
  · have hn := nan_num h
    rw [isNum_eq hx] at h
    have := of_decide_eq_true h
    by_cases h2 : x < 2147483648
    · exact .inr (.inl ⟨rfl, hn, by omega⟩)
    · exact .inr (.inr ⟨rfl, hn, by omega, hlt⟩)
theorem k0 : key .f32 0 = 0 := by decide +kernel
theorem n0 : nanb .f32 0 = false := by decide +kernel
theorem amtL_aux {x : Nat} {n : Bool} (h : ¬ x < 2139095040) (h3 : 2147483648 ≤ x) (h4 : x < 4294967296) : (bif (!false && !n && decide (0 < (if x < 2147483648 then (x : Int) else -((x - 2147483648 : Nat) : Int)))) then true else decide ((x : Int) = 0)) = false := by
  rw [if_neg (Nat.not_lt.2 h3)]
  generalize hy : x - 2147483648 = y
  have e1 : ¬ (0 : Int) < -(y : Int) := by omega
  have e2 : ¬ (x : Int) = 0 := by omega
  simp only [e1, e2, decide_false, Bool.and_false, cond_false]
theorem amtL_val {x : Nat} (hx : Cn .f32 x) : (amtL fops x).ret = .c (.bool (.s (decide (x < 2139095040)))) ∧ AllT (amtL fops x).obs := by
  unfold amtL
  simp only [fin_eq, cmp_gtr, k0, n0, key32 hx, ← hx.nan]
  rcases amt_cases hx with ⟨h1, h2⟩ | ⟨h1, h2, h3⟩ | ⟨h1, h2, h3, h4⟩
  · rw [h1]
    exact ⟨by simp only [cond_false, h2, decide_false], AllT.cons rfl AllT.nil⟩
  · rw [h1, h2]
    refine ⟨?_, AllT.cons (by simp) AllT.nil⟩
    rw [if_pos (by omega)]
    have e : (bif decide ((0 : Int) < x) then true else decide ((x : Int) = 0)) = true := by
      by_cases e : x = 0
      · simp [e]
      · have : (0 : Int) < x := by omega
        simp only [this, decide_true, cond_true]
    simp only [Bool.not_false, Bool.true_and, e, cond_true, h3, decide_true]
  · rw [h1, h2]
    refine ⟨?_, AllT.cons (by simp) AllT.nil⟩
    have e3 : ¬ x < 2139095040 := by omega
    rw [amtL_aux e3 h3 h4]
    simp only [cond_true, e3, decide_false]
theorem amtI_val {x : Nat} (hx : Cn .f32 x) : (amtI fops x).ret = .c (.bool (.s (decide (x < 2139095040)))) ∧ AllT (amtI fops x).obs := by
  unfold amtI
  simp only [infI_eq, cmp_geq, k0, n0, key32 hx, ← hx.nan]
  refine ⟨?_, AllT.cons ?_ AllT.nil⟩
  · rcases amt_cases hx with ⟨h1, h2⟩ | ⟨h1, h2, h3⟩ | ⟨h1, h2, h3, h4⟩
    · simp only [h1, h2]; simp
    · simp only [h1, h2, h3]
      rw [if_pos (by omega)]
      have e1 : ((x : Int).fdiv 2147483648) = 0 := by
        rw [Int.fdiv_eq_ediv_of_nonneg _ (by decide)]; omega
      simp [e1]
    · simp only [h1, h2]
      have e3 : ¬ x < 2139095040 := by omega
      have e1 : ¬ ((x : Int).fdiv 2147483648) = 0 := by
        rw [Int.fdiv_eq_ediv_of_nonneg _ (by decide)]; omega
      simp [e1, e3]
  · rcases amt_cases hx with ⟨h1, h2⟩ | ⟨h1, h2, h3⟩ | ⟨h1, h2, h3, h4⟩
    · simp [h1]
    · simp [h2]
    · simp [h2]
set_option maxRecDepth 100000 in
theorem amt_of {f : FuncId} {S : CS} (h : CallOK Tryd.prog f S) (R : Nat → CEff) (he : ∀ x, S 1 [.c (.flt .f32 x)] [] = some (R x)) (hn : ∀ x, Nat.ble 1 (R x).next = true) (hv : ∀ {x}, Cn .f32 x → (R x).ret = .c (.bool (.s (decide (x < 2139095040)))) ∧ AllT (R x).obs) : CallOK Tryd.prog f amtS := by
  refine h.flat.weak fun base args rd e E vals hs hob hargs => ?_
  unfold amtS at hs
  split at hs <;> cases hs
  rename_i x
  have hx : Cn .f32 x := by
    match vals, hargs with
    | v :: _, hargs => exact FR.cn hargs.1
  obtain ⟨h1, h2⟩ := hv hx
  exact ⟨⟨(R x).ret, [], base, (R x).obs⟩, flatS_eq (he x) rfl (by rw [h1]; rfl) (hn x), h2, fun E v hv => by rw [h1] at hv; exact hv, rfl, Nat.le_refl _, Nat.le_refl _⟩
set_option maxRecDepth 100000 in
theorem cAmtI : CallOK Tryd.prog 46 amtS :=
  amt_of (inlN_of (l := [(57, bits32S), (76, absS)]) ⟨cBits, cAbs, trivial⟩ mixed 8 Tryd.func46 (by kernel_rfl) (fun _ => none)) (amtI fops) (fun x => amtI_run fops x) (fun _ => rfl) amtI_val
set_option maxRecDepth 100000 in
theorem cAmtL : CallOK Tryd.prog 38 amtS :=
  amt_of (inlN_of (l := [(57, bits32S), (76, absS)]) ⟨cBits, cAbs, trivial⟩ mixed 8 Tryd.func38 (by kernel_rfl) (fun _ => none)) (amtL fops) (fun x => amtL_run fops x) (fun _ => rfl) amtL_val
end Go.Proofs.YtaodbpejeglmlaaDoor
