/- How a log warms. Nothing is assumed. -/
import Derived.Test.YtngdmcbjponlhaaVal
import Derived.Test.YtngdmcbjponlhaaAs
namespace Go.Proofs.Ytngdmcbjponlhaa
open Go
section
variable (O : FOps)
noncomputable def mass (x y : Nat) : Nat := O.bin .add .f32 (O.bin .add .f32 (O.bin .mul .f32 x 1082130432) (O.bin .mul .f32 y 1073741824)) 1048576000
noncomputable def heldH (a : Nat) : Nat := bif O.cmp .lss .f32 a 3262119936 then 3262119936 else bif O.cmp .gtr .f32 a 1153138688 then 1153138688 else a
noncomputable def flow (w : Nat → Nat) (a t : Nat) : Nat → Nat
  | 0 => O.bin .mul .f32 (O.bin .mul .f32 1056964608 (O.bin .sub .f32 a (w 6))) t
  | 6 => 0
  | i + 1 => O.bin .mul .f32 (O.bin .mul .f32 1048576000 (O.bin .sub .f32 (w (6 + i)) (w (7 + i)))) t
noncomputable def heatW (w : Nat → Nat) (a t i : Nat) : Nat := heldH O (O.bin .add .f32 (w (6 + i)) (O.bin .quo .f32 (O.bin .sub .f32 (flow O w a t i) (flow O w a t (i + 1))) (mass O (w i) (w (12 + i)))))
noncomputable def warmW (w : Nat → Nat) (a t : Nat) : Nat → Nat := fun i => [w 0, w 1, w 2, w 3, w 4, w 5, heatW O w a t 0, heatW O w a t 1, heatW O w a t 2, heatW O w a t 3, heatW O w a t 4, heatW O w a t 5, w 12, w 13, w 14, w 15, w 16, w 17].getD i 0
noncomputable def finL (x : Nat) : Bool := O.cmp .eql .f32 (O.bin .sub .f32 x x) 0
noncomputable def finI (x : Nat) : Bool := bif infI O x then false else true
noncomputable def shareB (t : Nat) : Bool := bif decide (t < 2139095040) then O.cmp .leq .f32 t 1065353216 else false
end
theorem finL_eq (x : Nat) : finL fops x = isNum x := fin_eq
theorem finI_eq (x : Nat) : finI fops x = isNum x := by
  unfold finI; rw [infI_eq]; cases isNum x <;> rfl
/-- One of four ways. -/
def way4 (A B C : Bool) (w : Nat → Nat) : Nat → Nat := fun i => bif A then 0 else bif B then 0 else bif C then 0 else w i
noncomputable def heldG (O : FOps) : List SV → Option SV
  | [.c (.flt .f32 a), .c (.flt .f32 l), .c (.flt .f32 h)] => some (.c (.flt .f32 (bif O.cmp .lss .f32 a l then l else bif O.cmp .gtr .f32 a h then h else a)))
  | _ => none
set_option maxRecDepth 100000 in
theorem held_run (O : FOps) (a l h : Nat) : inl ⟨Try.prog, O, orcN Try.prog O [] 1⟩ Try.f95 ⟨fun _ => none, fun _ => none⟩ 1 [.c (.flt .f32 a), .c (.flt .f32 l), .c (.flt .f32 h)] [] =
    some ⟨.c (.flt .f32 (bif O.cmp .lss .f32 a l then l else bif !O.cmp .lss .f32 a l && O.cmp .gtr .f32 a h then h else a)), [], 1, []⟩ := by kernel_rfl
set_option maxRecDepth 100000 in
theorem cHeld : CallOK Try.prog 95 (gS (heldG fops)) :=
  gS_of (inlN_of (l := []) trivial mixed 1 Try.func95 (by kernel_rfl) (fun _ => none)) fun args r E vals hG _ => by
    unfold heldG at hG
    split at hG <;> cases hG
    rename_i a l h _
    refine ⟨rfl, _, held_run fops a l h, rfl, rfl, AllT.nil, fun _ _ hv => ?_⟩
    cases hl : fops.cmp .lss .f32 a l <;> rw [hl] at hv <;> exact hv
end Go.Proofs.Ytngdmcbjponlhaa
