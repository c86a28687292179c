/- A log as an argument. Nothing is assumed. -/
import Derived.Test.YtaodbpejeglmlaaDoorAmt
import Derived.Test.YtaodbpejeglmlaaDoorSv
namespace Go.Proofs.YtaodbpejeglmlaaDoor
open Go
def wd (w : Nat → Nat) : SV := .a [.flt .f32 (w 0), .flt .f32 (w 1), .flt .f32 (w 2), .flt .f32 (w 3), .flt .f32 (w 4), .flt .f32 (w 5), .flt .f32 (w 6), .flt .f32 (w 7), .flt .f32 (w 8), .flt .f32 (w 9), .flt .f32 (w 10), .flt .f32 (w 11), .flt .f32 (w 12), .flt .f32 (w 13), .flt .f32 (w 14), .flt .f32 (w 15), .flt .f32 (w 16), .flt .f32 (w 17)]
set_option maxRecDepth 100000 in
theorem wd_rel {E : EM} {W : World} {base : Nat} {v : Value} (h : Value.okWide Tryd.prog W .any base 74 v) : ∃ f : Nat → Nat, (∀ i, Cn .f32 (f i)) ∧ RelV E (wd f) v :=
  val_floats (n := 18) (tf := 30) (by kernel_rfl) (by kernel_rfl) Tryd.underlying30 (by kernel_rfl) h
end Go.Proofs.YtaodbpejeglmlaaDoor
