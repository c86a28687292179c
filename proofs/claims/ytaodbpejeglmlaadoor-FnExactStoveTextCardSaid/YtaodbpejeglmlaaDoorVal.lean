/- A valid log; two logs that are equal. Nothing is assumed. -/
import Derived.Test.YtaodbpejeglmlaaDoorWd
import Derived.Test.YtaodbpejeglmlaaDoorHp
namespace Go.Proofs.YtaodbpejeglmlaaDoor
open Go

/-- The numbers of a log. -/
def wdOf (v : SV) : Option (Nat → Nat) :=
  match v with
  | .a l => match flts l with
    | some xs => match Nat.beq xs.length 18 with
      | true => some (fun i => xs.getD i 0)
      | false => none
    | none => none
  | _ => none
theorem wdOf_ok {v : SV} {w : Nat → Nat} (h : wdOf v = some w) : v = wd w := by
  unfold wdOf at h
  split at h <;> try (cases h; done)
  split at h <;> try (cases h; done)
  rename_i xs hx
  split at h <;> cases h
  rename_i hl
  rw [flts_ok hx]
  match xs, beqN.1 hl with
  | [a0, a1, a2, a3, a4, a5, a6, a7, a8, a9, a10, a11, a12, a13, a14, a15, a16, a17], _ => rfl
theorem wd_cn {E : EM} {w : Nat → Nat} {v : Value} (h : RelV E (wd w) v) (i : Nat) (hi : i < 18) : Cn .f32 (w i) := by
  obtain ⟨vs, _, hr⟩ := h
  have hr' : RelL E ((List.range 18).map fun i => .flt .f32 (w i)) vs.toList := hr
  obtain ⟨u, _, h2⟩ := hr'.get i (by simpa using hi)
  simp only [List.getElem_map, List.getElem_range] at h2
  exact FR.cn h2

/-! ### valid -/
noncomputable def hotB (O : FOps) (x : Nat) : Bool := bif O.cmp .geq .f32 x 3262119936 then O.cmp .leq .f32 x 1153138688 else false
noncomputable def badS (O : FOps) (w : Nat → Nat) (i : Nat) : Bool :=
  bif !decide (w i < 2139095040) then true else bif O.cmp .gtr .f32 (w i) 1092616192 then true else
  bif !decide (w (i + 12) < 2139095040) then true else bif O.cmp .gtr .f32 (w (i + 12)) 1092616192 then true else (bif O.cmp .geq .f32 (w (i + 6)) 3262119936 then !O.cmp .leq .f32 (w (i + 6)) 1153138688 else true)
noncomputable def badI (O : FOps) (w : Nat → Nat) (i : Nat) : Bool :=
  bif !(bif decide (w i < 2139095040) then O.cmp .leq .f32 (w i) 1092616192 else false) then true else
  bif !(bif decide (w (i + 12) < 2139095040) then O.cmp .leq .f32 (w (i + 12)) 1092616192 else false) then true else !hotB O (w (i + 6))
def six (f : Nat → Bool) : Bool := bif f 0 then false else bif f 1 then false else bif f 2 then false else bif f 3 then false else bif f 4 then false else bif f 5 then false else true
/-- What a valid log is. -/
noncomputable def good (w : Nat → Nat) (i : Nat) : Bool := decide (w i ≤ 1092616192) && (decide (w (i + 12) ≤ 1092616192) && hotB fops (w (i + 6)))
noncomputable def valid (w : Nat → Nat) : Bool := six fun i => !good w i
theorem nan_small {x : Nat} (h : x < 2139095040) : nanb .f32 x = false := by
  unfold nanb FloatKind.decode
  rw [read_nan, s32, i32]
  simp; omega
theorem key_small {x : Nat} (h : x < 2147483648) : key .f32 x = x := by
  unfold key negB rung
  rw [s32]
  have h1 : x / 2147483648 = 0 := Nat.div_eq_of_lt h
  simp [h1, Nat.mod_eq_of_lt h]
theorem n10 : nanb .f32 1092616192 = false := by decide +kernel
theorem upto_eq (x : Nat) : (bif decide (x < 2139095040) then fops.cmp .leq .f32 x 1092616192 else false) = decide (x ≤ 1092616192) := by
  by_cases h : x < 2139095040
  · rw [cmp_leq, nan_small h, n10, key_small (by omega), key_small (by omega)]
    simp [h]; omega
  · have : ¬ x ≤ 1092616192 := by omega
    simp [h, this]
theorem over_eq {x : Nat} (h : x < 2139095040) : fops.cmp .gtr .f32 x 1092616192 = !decide (x ≤ 1092616192) := by
  rw [cmp_gtr, nan_small h, n10, key_small (by omega), key_small (by omega)]
  by_cases h1 : x ≤ 1092616192
  · have : ¬ (1092616192 : Int) < x := by omega
    simp [h1, this]
  · have : (1092616192 : Int) < x := by omega
    simp [h1, this]
theorem badI_eq (w : Nat → Nat) (i : Nat) : badI fops w i = !good w i := by
  unfold badI good
  rw [upto_eq, upto_eq]
  cases decide (w i ≤ 1092616192) <;> cases decide (w (i + 12) ≤ 1092616192) <;> cases hotB fops (w (i + 6)) <;> rfl
theorem badS_one (x : Nat) (r : Bool) : (bif !decide (x < 2139095040) then true else bif fops.cmp .gtr .f32 x 1092616192 then true else r) = bif !decide (x ≤ 1092616192) then true else r := by
  by_cases h : x < 2139095040
  · rw [over_eq h]; simp [h]
  · have : ¬ x ≤ 1092616192 := by omega
    simp [h, this]
theorem badS_eq (w : Nat → Nat) (i : Nat) : badS fops w i = !good w i := by
  unfold badS good hotB
  rw [badS_one, badS_one]
  cases decide (w i ≤ 1092616192) <;> cases decide (w (i + 12) ≤ 1092616192) <;> cases fops.cmp .geq .f32 (w (i + 6)) 3262119936 <;> cases fops.cmp .leq .f32 (w (i + 6)) 1153138688 <;> rfl
theorem validS_eq (w : Nat → Nat) : six (badS fops w) = valid w := by
  unfold valid
  congr 1
  funext i
  exact badS_eq w i
theorem validI_eq (w : Nat → Nat) : six (badI fops w) = valid w := by
  unfold valid
  congr 1
  funext i
  exact badI_eq w i

/-! ### equal -/
noncomputable def cv (O : FOps) (x : Nat) : Nat := O.conv .f32 .f64 x
noncomputable def eqW (O : FOps) (a b : Nat → Nat) : Bool :=
  bif !six (fun i => !sf O (cv O (a i)) (cv O (b i))) then false else bif !six (fun i => !sf O (cv O (a (i + 6))) (cv O (b (i + 6)))) then false else bif !six (fun i => !sf O (cv O (a (i + 12))) (cv O (b (i + 12)))) then false else true
theorem eqW_self (a : Nat → Nat) : eqW fops a a = true := by
  unfold eqW six
  simp [sf_self]
noncomputable def eqG (O : FOps) : List SV → Option SV
  | [a, b] => match wdOf a with
    | some x => match wdOf b with
      | some y => some (.c (.bool (.s (eqW O x y))))
      | none => none
    | none => none
  | _ => none
set_option maxRecDepth 100000 in
theorem eq_run (O : FOps) (a b : Nat → Nat) : inl ⟨Tryd.prog, O, orcN Tryd.prog O [(28, gS (sfG O))] 2⟩ Tryd.f50 ⟨fun _ => none, fun _ => none⟩ 1 [wd a, wd b] [] = some ⟨.c (.bool (.s (eqW O a b))), [], 9, []⟩ := by kernel_rfl
set_option maxRecDepth 100000 in
theorem cEq : CallOK Tryd.prog 50 (gS (eqG fops)) :=
  gS_of (inlN_of (l := [(28, gS (sfG fops))]) ⟨cSf, trivial⟩ mixed 2 Tryd.func50 (by kernel_rfl) (fun _ => none)) fun args r E vals hG _ => by
    unfold eqG at hG
    split at hG <;> try (cases hG; done)
    split at hG <;> try (cases hG; done)
    rename_i x hx
    split at hG <;> cases hG
    rename_i y hy
    rw [wdOf_ok hx, wdOf_ok hy]
    exact ⟨rfl, _, eq_run fops x y, rfl, rfl, AllT.nil, fun _ _ h => h⟩
def back (w : Nat → Nat) : Nat → Nat := fun i => [w 0, w 1, w 2, w 3, w 4, w 5, w 6, w 7, w 8, w 9, w 10, w 11, w 12, w 13, w 14, w 15, w 16, w 17].getD i 0
def asE : SV → SE
  | .a l => .a l
  | _ => .a []
end Go.Proofs.YtaodbpejeglmlaaDoor
