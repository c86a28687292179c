/- What a valid log is, told of the two functions. Nothing is assumed. -/
import Derived.Test.YtaodbpejeglmlaaDoorVal
import Derived.Test.YtaodbpejeglmlaaDoorFn
namespace Go.Proofs.YtaodbpejeglmlaaDoor.Wt
open Go
noncomputable section
def wdL (w : Nat → Nat) : List SC := [.flt .f32 (w 0), .flt .f32 (w 1), .flt .f32 (w 2), .flt .f32 (w 3), .flt .f32 (w 4), .flt .f32 (w 5), .flt .f32 (w 6), .flt .f32 (w 7), .flt .f32 (w 8), .flt .f32 (w 9), .flt .f32 (w 10), .flt .f32 (w 11), .flt .f32 (w 12), .flt .f32 (w 13), .flt .f32 (w 14), .flt .f32 (w 15), .flt .f32 (w 16), .flt .f32 (w 17)]
def validG (vl : (Nat → Nat) → Bool) : List SV → Option SV
  | [v] => match wdOf v with
    | some w => some (.c (.bool (.s (vl w))))
    | none => none
  | _ => none
def LSt (O : FOps) (nm : Nat → Bool) : List (Nat × CS) := [(46, amtS), (38, amtS), (62, gQ [.s 1] (finG nm)), (58, gS (fin1G nm))]
set_option maxRecDepth 100000 in
theorem okLSt : AllOK Tryd.prog (LSt fops isNum) := ⟨cAmtI, cAmtL, cFin, cFinL, trivial⟩
set_option maxRecDepth 100000 in
theorem cValI_run (O : FOps) (nm : Nat → Bool) (w : Nat → Nat) : rE 1 (inl ⟨Tryd.prog, O, orcN Tryd.prog O (LSt O nm) 8⟩ Tryd.f43 ⟨fun _ => none, fun _ => none⟩ 1 [wd w] []) = some (.c (.bool (.s (six (badI O w)))), []) := by kernel_rfl
set_option maxRecDepth 100000 in
theorem cValI : CallOK Tryd.prog 43 (gS (validG valid)) :=
  gS_of2 (inlN_of (l := LSt fops isNum) okLSt mixed 8 Tryd.func43 (by kernel_rfl) (fun _ => none)) fun args r E vals hG hr => by
    unfold validG at hG
    split at hG <;> try (cases hG; done)
    split at hG <;> cases hG
    rename_i w hw
    rw [wdOf_ok hw]
    exact ⟨rfl, _, _, cValI_run fops isNum w, rfl, AllT.nil, fun _ _ h => by rw [validI_eq] at h; exact h⟩
set_option maxRecDepth 100000 in
theorem cValS_run (O : FOps) (nm : Nat → Bool) (w : Nat → Nat) : rE 2 (inl ⟨Tryd.prog, O, orcN Tryd.prog O (LSt O nm) 8⟩ Tryd.f39 ⟨fun _ => none, fun _ => none⟩ 2 [.c (.ptr 1 0)] [(1, ⟨false, false, .cells (wdL w)⟩)]) = some (.c (.bool (.s (six (badS O w)))), []) := by kernel_rfl
set_option maxRecDepth 100000 in
theorem cValS : CallOK Tryd.prog 39 (gQ [.p 18] (validG valid)) :=
  gQ_of2 (inlN_of (l := LSt fops isNum) okLSt mixed 8 Tryd.func39 (by kernel_rfl) (fun _ => none)) fun dl r E hG hv => by
    unfold validG at hG
    split at hG <;> try (cases hG; done)
    split at hG <;> cases hG
    rename_i w hw
    rw [wdOf_ok hw]
    exact ⟨_, _, cValS_run fops isNum w, rfl, AllT.nil, fun _ _ h => by rw [validS_eq] at h; exact h⟩
end
end Go.Proofs.YtaodbpejeglmlaaDoor.Wt
