/- The flow through a flue: a contract of impl.through and of spec.l03Flow. Nothing is assumed. -/
import Derived.Test.YtohmpnnncpjjlaaHp
import Derived.Test.YtohmpnnncpjjlaaFlu
import Derived.Test.YtohmpnnncpjjlaaSqu
namespace Go.Proofs.Ytohmpnnncpjjlaa
open Go
noncomputable section
def qt (O : FOps) (f0 f1 f2 f3 x y : Nat) : Nat := O.bin .quo .f32 (O.bin .add .f32 (O.bin .mul .f32 (O.bin .mul .f32 1092354048 f0) (O.bin .sub .f32 (O.bin .quo .f32 1135640576 (O.bin .add .f32 x 1133019136)) (O.bin .quo .f32 1135640576 (O.bin .add .f32 f2 1133019136)))) y) (O.bin .quo .f32 (O.bin .add .f32 1065353216 (O.bin .mul .f32 1048576000 f0)) (O.bin .mul .f32 (O.bin .mul .f32 f1 f3) (O.bin .mul .f32 f1 f3)))
def rt (O : FOps) (z : Nat) : Nat := O.conv .f64 .f32 (sqv (O.conv .f32 .f64 z))
def thr (O : FOps) (f0 f1 f2 f3 x y : Nat) : Nat := bif O.cmp .eql .f32 f3 0 then 0 else bif O.cmp .lss .f32 (qt O f0 f1 f2 f3 x y) 0 then O.neg .f32 (rt O (O.neg .f32 (qt O f0 f1 f2 f3 x y))) else rt O (qt O f0 f1 f2 f3 x y)
def ck (O : FOps) (z : Nat) : Bool := O.convOk .f64 .f32 (sqv (O.conv .f32 .f64 z))
theorem ck_ok (z : Nat) : ck fops z = true := root_ok z
def cks (O : FOps) (f0 f1 f2 f3 x y : Nat) : List Bool := [O.cmp .eql .f32 f3 0 || (!(O.cmp .lss .f32 (qt O f0 f1 f2 f3 x y) 0) || ck O (O.neg .f32 (qt O f0 f1 f2 f3 x y))), O.cmp .eql .f32 f3 0 || (O.cmp .lss .f32 (qt O f0 f1 f2 f3 x y) 0 || ck O (qt O f0 f1 f2 f3 x y))]
theorem cks_ok (f0 f1 f2 f3 x y : Nat) : AllT (cks fops f0 f1 f2 f3 x y) := AllT.cons (by rw [ck_ok]; simp) (AllT.cons (by rw [ck_ok]; simp) AllT.nil)
def Lth (O : FOps) (nm : Nat → Bool) : List (Nat × CS) := [(15, amtS), (47, amtS), (98, absS), (48, gQ [.s 1] (finG nm)), (82, gS (fin1G nm)), (100, gS (sqrtG sqv))]
set_option maxRecDepth 100000 in
theorem okLth : AllOK Try.prog (Lth fops isNum) := ⟨cAmtI, cAmtL, cAbs, cFin, cFinL, cSqrt, trivial⟩
def thrG (O : FOps) : List SV → Option SV
  | [.a [.flt .f32 f0, .flt .f32 f1, .flt .f32 f2, .flt .f32 f3, .int .i64 (.s _)], .c (.flt .f32 x), .c (.flt .f32 y)] => some (.c (.flt .f32 (thr O f0 f1 f2 f3 x y)))
  | _ => none
set_option maxRecDepth 100000 in
theorem thr_runI (O : FOps) (nm : Nat → Bool) (f0 f1 f2 f3 : Nat) (f4 : Int) (x y : Nat) : rE 1 (inl ⟨Try.prog, O, orcN Try.prog O (Lth O nm) 8⟩ Try.f71 ⟨fun _ => none, fun _ => none⟩ 1 [.a [.flt .f32 f0, .flt .f32 f1, .flt .f32 f2, .flt .f32 f3, .int .i64 (.s f4)], .c (.flt .f32 x), .c (.flt .f32 y)] []) = some (.c (.flt .f32 (thr O f0 f1 f2 f3 x y)), cks O f0 f1 f2 f3 x y) := by kernel_rfl
set_option maxRecDepth 100000 in
theorem thr_runS (O : FOps) (nm : Nat → Bool) (f0 f1 f2 f3 : Nat) (f4 : Int) (x y : Nat) : rE 2 (inl ⟨Try.prog, O, orcN Try.prog O (Lth O nm) 8⟩ Try.f69 ⟨fun _ => none, fun _ => none⟩ 2 [.c (.ptr 1 0), .c (.flt .f32 x), .c (.flt .f32 y)] [(1, ⟨false, false, .cells [.flt .f32 f0, .flt .f32 f1, .flt .f32 f2, .flt .f32 f3, .int .i64 (.s f4)]⟩)]) = some (.c (.flt .f32 (thr O f0 f1 f2 f3 x y)), cks O f0 f1 f2 f3 x y) := by kernel_rfl
set_option maxRecDepth 100000 in
theorem cThrI : CallOK Try.prog 71 (gS (thrG fops)) :=
  gS_of2 (inlN_of (l := Lth fops isNum) okLth mixed 8 Try.func71 (by kernel_rfl) (fun _ => none)) fun args r E vals hG hr => by
    unfold thrG at hG
    split at hG <;> cases hG
    exact ⟨rfl, _, _, thr_runI fops isNum _ _ _ _ _ _ _, rfl, cks_ok _ _ _ _ _ _, fun _ _ h => h⟩
set_option maxRecDepth 100000 in
theorem cThrS : CallOK Try.prog 69 (gQ [.p 5, .v, .v] (thrG fops)) :=
  gQ_of2 (inlN_of (l := Lth fops isNum) okLth mixed 8 Try.func69 (by kernel_rfl) (fun _ => none)) fun dl r E hG hv => by
    unfold thrG at hG
    split at hG <;> cases hG
    exact ⟨_, _, thr_runS fops isNum _ _ _ _ _ _ _, rfl, cks_ok _ _ _ _ _ _, fun _ _ h => h⟩
end
end Go.Proofs.Ytohmpnnncpjjlaa
