/- The numbers' own functions. Nothing is assumed. -/
import Derived.Test.YtngdmcbjponlhaaSu
import Derived.Test.YtngdmcbjponlhaaProg
import Derived.KernelRfl
namespace Go.Proofs.Ytngdmcbjponlhaa
open Go

set_option maxRecDepth 100000 in
theorem mixed : Try.prog.follows .mixedOrders = true := by kernel_rfl
set_option maxRecDepth 100000 in
theorem cBits : CallOK Try.prog 84 bits32S := bits32_ok Try.func84 (by kernel_rfl) (by kernel_rfl) (by kernel_rfl) (by kernel_rfl)
set_option maxRecDepth 100000 in
theorem sameI_run (O : FOps) (x y : Nat) : inl ⟨Try.prog, O, orcOf [(84, bits32S)]⟩ Try.f55 ⟨fun _ => none, fun _ => none⟩ 1 [.c (.flt .f32 x), .c (.flt .f32 y)] [] = some (sameR O x y) := by kernel_rfl
set_option maxRecDepth 100000 in
theorem sameL_run (O : FOps) (x y : Nat) : inl ⟨Try.prog, O, orcOf [(84, bits32S)]⟩ Try.f82 ⟨fun _ => none, fun _ => none⟩ 1 [.c (.flt .f32 x), .c (.flt .f32 y)] [] = some (sameR O x y) := by kernel_rfl
set_option maxRecDepth 100000 in
theorem cSameI : CallOK Try.prog 55 sameS :=
  same_ok (inl_of (l := [(84, bits32S)]) ⟨cBits, trivial⟩ mixed Try.func55 (by kernel_rfl) (fun _ => none)) fun x y => sameI_run fops x y
set_option maxRecDepth 100000 in
theorem cSameL : CallOK Try.prog 82 sameS :=
  same_ok (inl_of (l := [(84, bits32S)]) ⟨cBits, trivial⟩ mixed Try.func82 (by kernel_rfl) (fun _ => none)) fun x y => sameL_run fops x y
theorem same_of {P : Program} {f : FuncId} {S : CS} (h : CallOK P f S) (he : ∀ x y, S 1 [.c (.flt .f32 x), .c (.flt .f32 y)] [] = some ⟨.c (.bool (.s (Nat.beq x y))), [], 1, []⟩) : CallOK P f sameS := by
  refine h.flat.weak fun base args rd e E vals hs hob hargs => ?_
  unfold sameS at hs
  split at hs <;> cases hs
  rename_i x y
  exact ⟨_, flatS_eq (he x y) rfl rfl rfl, AllT.nil, fun E v hv => hv, rfl, Nat.le_refl _, Nat.le_refl _⟩
set_option maxRecDepth 100000 in
theorem sf_run (O : FOps) (x y : Nat) : inl ⟨Try.prog, O, orcN Try.prog O [] 1⟩ Try.f31 ⟨fun _ => none, fun _ => none⟩ 1 [.c (.flt .f64 x), .c (.flt .f64 y)] [] = some ⟨.c (.bool (.s (sf O x y))), [], 1, []⟩ := by kernel_rfl
set_option maxRecDepth 100000 in
theorem cSf : CallOK Try.prog 31 (gS (sfG fops)) :=
  gS_of (inlN_of (l := []) trivial mixed 1 Try.func31 (by kernel_rfl) (fun _ => none)) fun args r E vals hG _ => by
    unfold sfG at hG
    split at hG <;> cases hG
    exact ⟨rfl, _, sf_run fops _ _, rfl, rfl, AllT.nil, fun _ _ h => h⟩
end Go.Proofs.Ytngdmcbjponlhaa
