/- The numbers' own functions. Nothing is assumed. -/
import Derived.Test.YtaodbpejeglmlaaDoorSu
import Derived.Test.YtaodbpejeglmlaaDoorProg
import Derived.KernelRfl
namespace Go.Proofs.YtaodbpejeglmlaaDoor
open Go

set_option maxRecDepth 100000 in
theorem mixed : Tryd.prog.follows .mixedOrders = true := by kernel_rfl
set_option maxRecDepth 100000 in
theorem cBits : CallOK Tryd.prog 57 bits32S := bits32_ok Tryd.func57 (by kernel_rfl) (by kernel_rfl) (by kernel_rfl) (by kernel_rfl)
theorem same_of {P : Program} {f : FuncId} {S : CS} (h : CallOK P f S) (he : ∀ x y, S 1 [.c (.flt .f32 x), .c (.flt .f32 y)] [] = some ⟨.c (.bool (.s (Nat.beq x y))), [], 1, []⟩) : CallOK P f sameS := by
  refine h.flat.weak fun base args rd e E vals hs hob hargs => ?_
  unfold sameS at hs
  split at hs <;> cases hs
  rename_i x y
  exact ⟨_, flatS_eq (he x y) rfl rfl rfl, AllT.nil, fun E v hv => hv, rfl, Nat.le_refl _, Nat.le_refl _⟩
set_option maxRecDepth 100000 in
theorem sf_run (O : FOps) (x y : Nat) : inl ⟨Tryd.prog, O, orcN Tryd.prog O [] 1⟩ Tryd.f28 ⟨fun _ => none, fun _ => none⟩ 1 [.c (.flt .f64 x), .c (.flt .f64 y)] [] = some ⟨.c (.bool (.s (sf O x y))), [], 1, []⟩ := by kernel_rfl
set_option maxRecDepth 100000 in
theorem cSf : CallOK Tryd.prog 28 (gS (sfG fops)) :=
  gS_of (inlN_of (l := []) trivial mixed 1 Tryd.func28 (by kernel_rfl) (fun _ => none)) fun args r E vals hG _ => by
    unfold sfG at hG
    split at hG <;> cases hG
    exact ⟨rfl, _, sf_run fops _ _, rfl, rfl, AllT.nil, fun _ _ h => h⟩
end Go.Proofs.YtaodbpejeglmlaaDoor
