/- Facts of floats up to the bits of a NaN. Nothing is assumed. -/
import Derived.Test.YtaodbpejeglmlaaDoorSt
namespace Go.Proofs.YtaodbpejeglmlaaDoor
open Go

def nanb (k : FloatKind) (x : Nat) : Bool := (k.decode x).isNaN
/-- The bits that stand for a float. -/
def Cn (k : FloatKind) (x : Nat) : Prop := ∃ r, r < 2 ^ k.format.width ∧ can k r = x
theorem FR.cn {k : FloatKind} {x : Nat} {v : Value} (h : FR k x v) : Cn k x := let ⟨r, _, h2, h3⟩ := h; ⟨r, h2, h3⟩
theorem Cn.nan {k : FloatKind} {x : Nat} (h : Cn k x) : nanb k x = Nat.beq x (qnan k) := by
  obtain ⟨r, _, rfl⟩ := h
  unfold nanb
  rcases can_cases k r with ⟨h1, h2⟩ | ⟨h1, h2⟩
  · rw [h2, qnan_nan, beqN.2 rfl]
  · rw [h2, h1]
    cases hb : Nat.beq r (qnan k)
    · rfl
    · rw [beqN.1 hb, qnan_nan] at h1; cases h1
theorem Cn.lt {k : FloatKind} {x : Nat} (h : Cn k x) : x < 2 ^ k.format.width := by
  obtain ⟨r, h1, rfl⟩ := h
  rcases can_cases k r with ⟨_, h2⟩ | ⟨_, h2⟩
  · rw [h2]; cases k <;> decide +kernel
  · rw [h2]; exact h1
theorem order_self (d : Ieee.Datum) : d.order d = if d.isNaN then none else some .eq := by
  cases d with
  | nan s t => rfl
  | infinity s => cases s <;> rfl
  | number s m i =>
    simp only [Ieee.Datum.order, Ieee.Datum.isNaN]
    simp [compare, compareOfLessAndEq]
theorem cmp_neq_self (k : FloatKind) (x : Nat) : fops.cmp .neq k x x = nanb k x := by
  show cmpOrd .neq (k.format.order x x) = _
  unfold Ieee.Format.order nanb FloatKind.decode
  rw [order_self]
  cases (k.format.read x).isNaN <;> rfl
theorem cmp_eql_self (k : FloatKind) (x : Nat) : fops.cmp .eql k x x = !nanb k x := by
  show cmpOrd .eql (k.format.order x x) = _
  unfold Ieee.Format.order nanb FloatKind.decode
  rw [order_self]
  cases (k.format.read x).isNaN <;> rfl

/-- 'sameFloat' over what is told of floats. -/
noncomputable def sf (O : FOps) (x y : Nat) : Bool :=
  bif (bif O.cmp .neq .f64 x x then true else O.cmp .neq .f64 y y) then (bif O.cmp .neq .f64 x x then O.cmp .neq .f64 y y else false)
  else bif (bif O.cmp .eql .f64 x 0 then O.cmp .eql .f64 y 0 else false) then (O.cmp .gtr .f64 (O.bin .quo .f64 4607182418800017408 x) 0 == O.cmp .gtr .f64 (O.bin .quo .f64 4607182418800017408 y) 0)
  else O.cmp .eql .f64 x y
theorem sf_self (x : Nat) : sf fops x x = true := by
  unfold sf
  rw [cmp_neq_self]
  cases h : nanb .f64 x
  · simp only [cond_false, cond_true, Bool.cond_self]
    cases fops.cmp .eql .f64 x 0
    · simp only [cond_false, cmp_eql_self, h]; rfl
    · simp
  · rfl
noncomputable def sfG (O : FOps) : List SV → Option SV
  | [.c (.flt .f64 x), .c (.flt .f64 y)] => some (.c (.bool (.s (sf O x y))))
  | _ => none

/-- Two numbers are the same. -/
def sameS : CS := fun base args rd => match args, rd with
  | [.c (.flt .f32 x), .c (.flt .f32 y)], [] => some ⟨.c (.bool (.s (Nat.beq x y))), [], base, []⟩
  | _, _ => none
theorem same_val {x y : Nat} (hx : Cn .f32 x) (hy : Cn .f32 y) :
    (bif (bif fops.cmp .neq .f32 x x then true else fops.cmp .neq .f32 y y) then (bif fops.cmp .neq .f32 x x then fops.cmp .neq .f32 y y else false) else decide ((x : Int) = y)) = Nat.beq x y := by
  rw [cmp_neq_self, cmp_neq_self, hx.nan, hy.nan]
  cases h1 : Nat.beq x (qnan .f32) <;> cases h2 : Nat.beq y (qnan .f32)
  · simp only [cond_false]
    cases h3 : Nat.beq x y
    · have : x ≠ y := fun e => by rw [beqN.2 e] at h3; cases h3
      simp; omega
    · rw [beqN.1 h3]; simp
  · have : Nat.beq x y = false := by
      cases h3 : Nat.beq x y
      · rfl
      · rw [beqN.1 h3, h2] at h1; cases h1
    rw [this]; rfl
  · have : Nat.beq x y = false := by
      cases h3 : Nat.beq x y
      · rfl
      · rw [← beqN.1 h3, h1] at h2; cases h2
    rw [this]; rfl
  · rw [beqN.1 h1, beqN.1 h2, beqN.2 rfl]; rfl
theorem AllT.cons {b : Bool} {l : List Bool} (h1 : b = true) (h2 : AllT l) : AllT (b :: l) := fun c hc => by
  rcases List.mem_cons.1 hc with rfl | h
  · exact h1
  · exact h2 c h
/-- What such a function's run comes to. -/
def sameR (O : FOps) (x y : Nat) : CEff :=
  ⟨.c (.bool (.s (bif (bif O.cmp .neq .f32 x x then true else O.cmp .neq .f32 y y) then (bif O.cmp .neq .f32 x x then O.cmp .neq .f32 y y else false) else decide ((x : Int) = y)))), [], 1,
    [(bif O.cmp .neq .f32 x x then true else O.cmp .neq .f32 y y) || !Nat.beq x (qnan .f32), (bif O.cmp .neq .f32 x x then true else O.cmp .neq .f32 y y) || !Nat.beq y (qnan .f32)]⟩
theorem same_ok {P : Program} {f : FuncId} {S : CS} (h : CallOK P f S) (he : ∀ x y, S 1 [.c (.flt .f32 x), .c (.flt .f32 y)] [] = some (sameR fops x y)) : CallOK P f sameS := by
  refine h.flat.weak fun base args rd e E vals hs hob hargs => ?_
  unfold sameS at hs
  split at hs <;> cases hs
  rename_i x y
  have hx : Cn .f32 x := by
    match vals, hargs with
    | v :: _, hargs => exact FR.cn hargs.1
  have hy : Cn .f32 y := by
    match vals, hargs with
    | _ :: v :: _, hargs => exact FR.cn hargs.2.1
  have hobs : AllT (sameR fops x y).obs := by
    refine AllT.cons ?_ (AllT.cons ?_ AllT.nil)
    · rw [cmp_neq_self, cmp_neq_self, hx.nan, hy.nan]
      cases Nat.beq x (qnan .f32) <;> cases Nat.beq y (qnan .f32) <;> rfl
    · rw [cmp_neq_self, cmp_neq_self, hx.nan, hy.nan]
      cases Nat.beq x (qnan .f32) <;> cases Nat.beq y (qnan .f32) <;> rfl
  refine ⟨⟨(sameR fops x y).ret, [], base, (sameR fops x y).obs⟩, flatS_eq (he x y) rfl rfl rfl, hobs, fun E v hv => ?_, rfl, Nat.le_refl _, Nat.le_refl _⟩
  have hv' : v = .bool _ := hv
  rw [hv']
  exact congrArg Value.bool (same_val hx hy)
end Go.Proofs.YtaodbpejeglmlaaDoor
