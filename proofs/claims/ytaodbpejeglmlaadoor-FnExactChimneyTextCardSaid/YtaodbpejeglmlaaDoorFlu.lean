/- A flue that is valid. Nothing is assumed. -/
import Derived.Test.YtaodbpejeglmlaaDoorFn
namespace Go.Proofs.YtaodbpejeglmlaaDoor
open Go
noncomputable section
def flueB (O : FOps) (a b c d : Nat) : Bool :=
  bif decide (a < 2139095040) then bif O.cmp .geq .f32 a 1031798784 then bif O.cmp .leq .f32 a 1106247680 then
  bif decide (b < 2139095040) then bif O.cmp .geq .f32 b 1015021568 then bif O.cmp .leq .f32 b 1082130432 then
  bif (bif O.cmp .geq .f32 c 3262119936 then O.cmp .leq .f32 c 1153138688 else false) then bif decide (d < 2139095040) then O.cmp .leq .f32 d 1065353216 else false
  else false else false else false else false else false else false else false
def flueB' (O : FOps) (a b c d : Nat) : Bool :=
  bif decide (a < 2139095040) then bif (bif O.cmp .geq .f32 a 1031798784 then O.cmp .leq .f32 a 1106247680 else false) then
  bif decide (b < 2139095040) then bif (bif O.cmp .geq .f32 b 1015021568 then O.cmp .leq .f32 b 1082130432 else false) then
  bif (bif O.cmp .geq .f32 c 3262119936 then O.cmp .leq .f32 c 1153138688 else false) then bif decide (d < 2139095040) then O.cmp .leq .f32 d 1065353216 else false
  else false else false else false else false else false
theorem flueB_eq (O : FOps) (a b c d : Nat) : flueB' O a b c d = flueB O a b c d := by
  unfold flueB flueB'
  cases O.cmp .geq .f32 a 1031798784 <;> cases O.cmp .geq .f32 b 1015021568 <;> rfl
def flueG (O : FOps) : List SV → Option SV
  | [.a [.flt .f32 a, .flt .f32 b, .flt .f32 c, .flt .f32 d, .int .i64 _]] => some (.c (.bool (.s (flueB O a b c d))))
  | _ => none
def amL : List (Nat × CS) := [(46, amtS), (38, amtS)]
set_option maxRecDepth 100000 in
theorem okAm : AllOK Tryd.prog amL := ⟨cAmtI, cAmtL, trivial⟩
set_option maxRecDepth 100000 in
theorem cFlueI : CallOK Tryd.prog 33 (gS (flueG fops)) :=
  gS_of2 (inlN_of (l := amL) okAm mixed 8 Tryd.func33 (by kernel_rfl) (fun _ => none)) fun args r E vals hG hr => by
    unfold flueG at hG
    split at hG <;> cases hG
    rename_i a b c d n
    have h : ∀ O : FOps, rE 1 (inl ⟨Tryd.prog, O, orcN Tryd.prog O amL 8⟩ Tryd.f33 ⟨fun _ => none, fun _ => none⟩ 1 [.a [.flt .f32 a, .flt .f32 b, .flt .f32 c, .flt .f32 d, .int .i64 n]] []) = some (.c (.bool (.s (flueB' O a b c d))), []) := fun O => by kernel_rfl
    refine ⟨rfl, _, _, h fops, rfl, AllT.nil, fun _ _ h => ?_⟩
    rw [flueB_eq] at h; exact h
set_option maxRecDepth 100000 in
theorem cFlueL : CallOK Tryd.prog 30 (gQ [.p 5] (flueG fops)) :=
  gQ_of2 (inlN_of (l := amL) okAm mixed 8 Tryd.func30 (by kernel_rfl) (fun _ => none)) fun dl r E hG hv => by
    unfold flueG at hG
    split at hG <;> cases hG
    rename_i a b c d n
    have h : ∀ O : FOps, rE 2 (inl ⟨Tryd.prog, O, orcN Tryd.prog O amL 8⟩ Tryd.f30 ⟨fun _ => none, fun _ => none⟩ 2 [.c (.ptr 1 0)] [(1, ⟨false, false, .cells [.flt .f32 a, .flt .f32 b, .flt .f32 c, .flt .f32 d, .int .i64 n]⟩)]) = some (.c (.bool (.s (flueB O a b c d))), []) := fun O => by kernel_rfl
    exact ⟨_, _, h fops, rfl, AllT.nil, fun _ _ h => h⟩
end
end Go.Proofs.YtaodbpejeglmlaaDoor
