/- Facts of floats up to the bits of a NaN. Nothing is assumed. -/
import Derived.Test.YtabiimgfpeldjaaSt
namespace Go.Proofs.Ytabiimgfpeldjaa
open Go

def nanb (k : FloatKind) (x : Nat) : Bool := (k.decode x).isNaN
/-- The bits that stand for a float. -/
def Cn (k : FloatKind) (x : Nat) : Prop := ∃ r, r < 2 ^ k.format.width ∧ can k r = x
theorem FR.cn {k : FloatKind} {x : Nat} {v : Value} (h : FR k x v) : Cn k x := let ⟨r, _, h2, h3⟩ := h; ⟨r, h2, h3⟩
theorem Cn.nan {k : FloatKind} {x : Nat} (h : Cn k x) : nanb k x = Nat.beq x (qnan k) := by
  obtain ⟨r, _, rfl⟩ := h
  unfold nanb
  rcases can_cases k r with ⟨h1, h2⟩ | ⟨h1, h2⟩
  · rw [h2, qnan_nan, beqN.2 rfl]
  · rw [h2, h1]
    cases hb : Nat.beq r (qnan k)
    · rfl
    · rw [beqN.1 hb, qnan_nan] at h1; cases h1
theorem Cn.lt {k : FloatKind} {x : Nat} (h : Cn k x) : x < 2 ^ k.format.width := by
  obtain ⟨r, h1, rfl⟩ := h
  rcases can_cases k r with ⟨_, h2⟩ | ⟨_, h2⟩
  · rw [h2]; cases k <;> decide +kernel
  · rw [h2]; exact h1
theorem order_self (d : Ieee.Datum) : d.order d = if d.isNaN then none else some .eq := by
  cases d with
  | nan s t => rfl
  | infinity s => cases s <;> rfl
  | number s m i =>
    simp only [Ieee.Datum.order, Ieee.Datum.isNaN]
    simp [compare, compareOfLessAndEq]
theorem cmp_neq_self (k : FloatKind) (x : Nat) : fops.cmp .neq k x x = nanb k x := by
  show cmpOrd .neq (k.format.order x x) = _
  unfold Ieee.Format.order nanb FloatKind.decode
  rw [order_self]
  cases (k.format.read x).isNaN <;> rfl
theorem cmp_eql_self (k : FloatKind) (x : Nat) : fops.cmp .eql k x x = !nanb k x := by
  show cmpOrd .eql (k.format.order x x) = _
  unfold Ieee.Format.order nanb FloatKind.decode
  rw [order_self]
  cases (k.format.read x).isNaN <;> rfl

theorem read_f32 {x : Nat} {s : Bool} {m : Nat} {e : Int} (h : FloatKind.f32.decode x = .number s m e) : m < 2 ^ 24 ∧ -149 ≤ e ∧ e ≤ 104 := by
  unfold FloatKind.decode Ieee.Format.read at h
  have s32 : FloatKind.f32.format.signWeight = 2147483648 := by decide +kernel
  have i32 : FloatKind.f32.format.infRung = 2139095040 := by decide +kernel
  have b32 : FloatKind.f32.format.binade = 8388608 := by decide +kernel
  have l32 : FloatKind.f32.format.leastPlace = -149 := by decide +kernel
  simp only [s32, i32, b32, l32] at h
  split at h
  · cases h; omega
  · split at h
    · cases h; omega
    · split at h <;> cases h
theorem cut_zero (w : Ieee.Toward) (s : Bool) (n : Nat) : w.cut s n 0 = n := by
  unfold Ieee.Toward.cut
  cases w <;> simp [Nat.mod_one]
theorem fin_aux {a k : Nat} (h1 : a ≤ 1149) (h2 : k < 2 ^ 53) : min (a * 4503599627370496 + k) 9218868437227405312 < 9218868437227405312 := by
  have h2' : k < 9007199254740992 := h2
  omega
theorem conv_fin {x : Nat} {s : Bool} {m : Nat} {e : Int} (h : FloatKind.f32.decode x = .number s m e) : (FloatKind.f64.decode (FloatKind.f64.encode (.number s m e))).isInfinity = false := by
  obtain ⟨h1, h2, h3⟩ := read_f32 h
  have s64 : FloatKind.f64.format.signWeight = 9223372036854775808 := by decide +kernel
  have i64 : FloatKind.f64.format.infRung = 9218868437227405312 := by decide +kernel
  have b64 : FloatKind.f64.format.binade = 4503599627370496 := by decide +kernel
  have l64 : FloatKind.f64.format.leastPlace = -1074 := by decide +kernel
  have f64 : FloatKind.f64.format.fractionBits = 52 := by decide +kernel
  -- a rung below that of infinity
  have key : ∀ (neg : Bool) (r : Nat), r < 9218868437227405312 → (FloatKind.f64.decode (FloatKind.f64.format.word neg r)).isInfinity = false := by
    intro neg r hr
    unfold FloatKind.decode Ieee.Format.read
    have hw : FloatKind.f64.format.word neg r % FloatKind.f64.format.signWeight = r := rung_word _ _ (by rw [s64]; omega)
    dsimp only
    rw [hw, i64, b64]
    split
    · rfl
    · first | rfl | (split <;> first | rfl | omega)
  show (FloatKind.f64.decode (FloatKind.f64.format.nearest s m e)).isInfinity = false
  unfold Ieee.Format.nearest
  split
  · exact key s 0 (by decide)
  · rename_i hm
    have hlog : m.log2 ≤ 23 := by
      have := (Nat.log2_lt hm).2 h1
      omega
    have hmax : max (e + (m.log2 : Int) - (52 : Nat)) (-1074) = e + m.log2 - 52 := by omega
    simp only [f64, l64, i64, b64, hmax]
    have d1 : (e + (m.log2 : Int) - 52 - e).toNat = 0 := by omega
    have d2 : (e - (e + (m.log2 : Int) - 52)).toNat = 52 - m.log2 := by omega
    rw [d1, d2, cut_zero]
    have hk : m <<< (52 - m.log2) < 2 ^ 53 := by
      rw [Nat.shiftLeft_eq]
      have : m < 2 ^ (m.log2 + 1) := Nat.lt_log2_self
      calc m * 2 ^ (52 - m.log2) < 2 ^ (m.log2 + 1) * 2 ^ (52 - m.log2) := Nat.mul_lt_mul_of_pos_right this (Nat.two_pow_pos _)
        _ = 2 ^ 53 := by rw [← Nat.pow_add]; congr 1; omega
    have d3 : (e + (m.log2 : Int) - 52 - -1074).toNat ≤ 1149 := by omega
    exact key s _ (fin_aux d3 hk)
theorem conv_ok (x : Nat) : fops.convOk .f32 .f64 x = true := by
  show ((floatToFloatBits .f32 x .f64).isSome || (FloatKind.f32.decode x).isNaN) = true
  unfold floatToFloatBits
  cases h : (FloatKind.f32.decode x) with
  | nan s t => simp [Ieee.Datum.isNaN]
  | infinity s => simp
  | number s m e => simp [conv_fin h]

/-- 'sameFloat' over what is told of floats. -/
noncomputable def sf (O : FOps) (x y : Nat) : Bool :=
  bif (bif O.cmp .neq .f64 x x then true else O.cmp .neq .f64 y y) then (bif O.cmp .neq .f64 x x then O.cmp .neq .f64 y y else false)
  else bif (bif O.cmp .eql .f64 x 0 then O.cmp .eql .f64 y 0 else false) then (O.cmp .gtr .f64 (O.bin .quo .f64 4607182418800017408 x) 0 == O.cmp .gtr .f64 (O.bin .quo .f64 4607182418800017408 y) 0)
  else O.cmp .eql .f64 x y
theorem sf_self (x : Nat) : sf fops x x = true := by
  unfold sf
  rw [cmp_neq_self]
  cases h : nanb .f64 x
  · simp only [cond_false, cond_true, Bool.cond_self]
    cases fops.cmp .eql .f64 x 0
    · simp only [cond_false, cmp_eql_self, h]; rfl
    · simp
  · rfl
noncomputable def sfG (O : FOps) : List SV → Option SV
  | [.c (.flt .f64 x), .c (.flt .f64 y)] => some (.c (.bool (.s (sf O x y))))
  | _ => none

/-- Two numbers are the same. -/
def sameS : CS := fun base args rd => match args, rd with
  | [.c (.flt .f32 x), .c (.flt .f32 y)], [] => some ⟨.c (.bool (.s (Nat.beq x y))), [], base, []⟩
  | _, _ => none
theorem same_val {x y : Nat} (hx : Cn .f32 x) (hy : Cn .f32 y) :
    (bif (bif fops.cmp .neq .f32 x x then true else fops.cmp .neq .f32 y y) then (bif fops.cmp .neq .f32 x x then fops.cmp .neq .f32 y y else false) else decide ((x : Int) = y)) = Nat.beq x y := by
  rw [cmp_neq_self, cmp_neq_self, hx.nan, hy.nan]
  cases h1 : Nat.beq x (qnan .f32) <;> cases h2 : Nat.beq y (qnan .f32)
  · simp only [cond_false]
    cases h3 : Nat.beq x y
    · have : x ≠ y := fun e => by rw [beqN.2 e] at h3; cases h3
      simp; omega
    · rw [beqN.1 h3]; simp
  · have : Nat.beq x y = false := by
      cases h3 : Nat.beq x y
      · rfl
      · rw [beqN.1 h3, h2] at h1; cases h1
    rw [this]; rfl
  · have : Nat.beq x y = false := by
      cases h3 : Nat.beq x y
      · rfl
      · rw [← beqN.1 h3, h1] at h2; cases h2
    rw [this]; rfl
  · rw [beqN.1 h1, beqN.1 h2, beqN.2 rfl]; rfl
theorem AllT.cons {b : Bool} {l : List Bool} (h1 : b = true) (h2 : AllT l) : AllT (b :: l) := fun c hc => by
  rcases List.mem_cons.1 hc with rfl | h
  · exact h1
  · exact h2 c h
/-- What such a function's run comes to. -/
def sameR (O : FOps) (x y : Nat) : CEff :=
  ⟨.c (.bool (.s (bif (bif O.cmp .neq .f32 x x then true else O.cmp .neq .f32 y y) then (bif O.cmp .neq .f32 x x then O.cmp .neq .f32 y y else false) else decide ((x : Int) = y)))), [], 1,
    [(bif O.cmp .neq .f32 x x then true else O.cmp .neq .f32 y y) || !Nat.beq x (qnan .f32), (bif O.cmp .neq .f32 x x then true else O.cmp .neq .f32 y y) || !Nat.beq y (qnan .f32)]⟩
theorem same_ok {P : Program} {f : FuncId} {S : CS} (h : CallOK P f S) (he : ∀ x y, S 1 [.c (.flt .f32 x), .c (.flt .f32 y)] [] = some (sameR fops x y)) : CallOK P f sameS := by
  refine h.flat.weak fun base args rd e E vals hs hob hargs => ?_
  unfold sameS at hs
  split at hs <;> cases hs
  rename_i x y
  have hx : Cn .f32 x := by
    match vals, hargs with
    | v :: _, hargs => exact FR.cn hargs.1
  have hy : Cn .f32 y := by
    match vals, hargs with
    | _ :: v :: _, hargs => exact FR.cn hargs.2.1
  have hobs : AllT (sameR fops x y).obs := by
    refine AllT.cons ?_ (AllT.cons ?_ AllT.nil)
    · rw [cmp_neq_self, cmp_neq_self, hx.nan, hy.nan]
      cases Nat.beq x (qnan .f32) <;> cases Nat.beq y (qnan .f32) <;> rfl
    · rw [cmp_neq_self, cmp_neq_self, hx.nan, hy.nan]
      cases Nat.beq x (qnan .f32) <;> cases Nat.beq y (qnan .f32) <;> rfl
  refine ⟨⟨(sameR fops x y).ret, [], base, (sameR fops x y).obs⟩, flatS_eq (he x y) rfl rfl rfl, hobs, fun E v hv => ?_, rfl, Nat.le_refl _, Nat.le_refl _⟩
  have hv' : v = .bool _ := hv
  rw [hv']
  exact congrArg Value.bool (same_val hx hy)
end Go.Proofs.Ytabiimgfpeldjaa
