/- What the shelf's strings.Join asks of this program. Nothing is assumed. -/
import Derived.Test.YtaodbpejeglmlaaDoorNum
import Derived.Shelf.Strings.OnBuilder
namespace Go.Proofs.YtaodbpejeglmlaaDoor.Jn
open Go Go.Shelf
noncomputable section
def ρ : Ren := ⟨fun i => match i with
  | 156 => 34
  | 165 => 53
  | 166 => 54
  | 169 => 55
  | 240 => 66
  | 241 => 67
  | 276 => 74
  | 277 => 75
  | _ => 0, fun i => match i with
  | 0 => 0
  | 3 => 3
  | 4 => 4
  | 5 => 5
  | 9 => 9
  | 20 => 20
  | 31 => 64
  | 37 => 80
  | 70 => 83
  | 72 => 85
  | 75 => 88
  | 76 => 89
  | 80 => 91
  | 127 => 99
  | 164 => 110
  | _ => 0, fun _ => 0⟩
set_option maxRecDepth 100000 in
theorem f156 : Tryd.prog.funcs[ρ.f 156]? = some (Body.n156 ρ) := by kernel_rfl
set_option maxRecDepth 100000 in
theorem f165 : Tryd.prog.funcs[ρ.f 165]? = some (Body.n165 ρ) := by kernel_rfl
set_option maxRecDepth 100000 in
theorem f166 : Tryd.prog.funcs[ρ.f 166]? = some (Body.n166 ρ) := by kernel_rfl
set_option maxRecDepth 100000 in
theorem f169 : Tryd.prog.funcs[ρ.f 169]? = some (Body.n169 ρ) := by kernel_rfl
set_option maxRecDepth 100000 in
theorem f240 : Tryd.prog.funcs[ρ.f 240]? = some (Body.n240 ρ) := by kernel_rfl
set_option maxRecDepth 100000 in
theorem f241 : Tryd.prog.funcs[ρ.f 241]? = some (Body.n241 ρ) := by kernel_rfl
set_option maxRecDepth 100000 in
theorem f276 : Tryd.prog.funcs[ρ.f 276]? = some (Body.n276 ρ) := by kernel_rfl
set_option maxRecDepth 100000 in
theorem f277 : Tryd.prog.funcs[ρ.f 277]? = some (Body.n277 ρ) := by kernel_rfl
set_option maxRecDepth 100000 in
theorem t0 : Tryd.prog.underlying (ρ.t 0) = some (TypeDesc.tuple #[]) := by kernel_rfl
set_option maxRecDepth 100000 in
theorem a0 : ∀ w, (isAgg (ρ.t 0)).run Tryd.prog w = .ok false w := fun w => by kernel_rfl
set_option maxRecDepth 100000 in
theorem z0 : ∀ w, (Go.sizeOf (ρ.t 0)).run Tryd.prog w = .ok 1 w := fun w => by kernel_rfl
set_option maxRecDepth 100000 in
theorem v0 : ∀ w, (zeroValue (ρ.t 0)).run Tryd.prog w = .ok (Value.tuple #[]) w := fun w => by kernel_rfl
set_option maxRecDepth 100000 in
theorem t3 : Tryd.prog.underlying (ρ.t 3) = some (TypeDesc.int IntKind.i64) := by kernel_rfl
set_option maxRecDepth 100000 in
theorem a3 : ∀ w, (isAgg (ρ.t 3)).run Tryd.prog w = .ok false w := fun w => by kernel_rfl
set_option maxRecDepth 100000 in
theorem z3 : ∀ w, (Go.sizeOf (ρ.t 3)).run Tryd.prog w = .ok 1 w := fun w => by kernel_rfl
set_option maxRecDepth 100000 in
theorem v3 : ∀ w, (zeroValue (ρ.t 3)).run Tryd.prog w = .ok (Value.int IntKind.i64 0) w := fun w => by kernel_rfl
set_option maxRecDepth 100000 in
theorem t4 : Tryd.prog.underlying (ρ.t 4) = some (TypeDesc.bool) := by kernel_rfl
set_option maxRecDepth 100000 in
theorem a4 : ∀ w, (isAgg (ρ.t 4)).run Tryd.prog w = .ok false w := fun w => by kernel_rfl
set_option maxRecDepth 100000 in
theorem z4 : ∀ w, (Go.sizeOf (ρ.t 4)).run Tryd.prog w = .ok 1 w := fun w => by kernel_rfl
set_option maxRecDepth 100000 in
theorem v4 : ∀ w, (zeroValue (ρ.t 4)).run Tryd.prog w = .ok (Value.bool false) w := fun w => by kernel_rfl
set_option maxRecDepth 100000 in
theorem t5 : Tryd.prog.underlying (ρ.t 5) = some (TypeDesc.int IntKind.u8) := by kernel_rfl
set_option maxRecDepth 100000 in
theorem a5 : ∀ w, (isAgg (ρ.t 5)).run Tryd.prog w = .ok false w := fun w => by kernel_rfl
set_option maxRecDepth 100000 in
theorem z5 : ∀ w, (Go.sizeOf (ρ.t 5)).run Tryd.prog w = .ok 1 w := fun w => by kernel_rfl
set_option maxRecDepth 100000 in
theorem v5 : ∀ w, (zeroValue (ρ.t 5)).run Tryd.prog w = .ok (Value.int IntKind.u8 0) w := fun w => by kernel_rfl
set_option maxRecDepth 100000 in
theorem t9 : Tryd.prog.underlying (ρ.t 9) = some (TypeDesc.string) := by kernel_rfl
set_option maxRecDepth 100000 in
theorem a9 : ∀ w, (isAgg (ρ.t 9)).run Tryd.prog w = .ok false w := fun w => by kernel_rfl
set_option maxRecDepth 100000 in
theorem z9 : ∀ w, (Go.sizeOf (ρ.t 9)).run Tryd.prog w = .ok 1 w := fun w => by kernel_rfl
set_option maxRecDepth 100000 in
theorem v9 : ∀ w, (zeroValue (ρ.t 9)).run Tryd.prog w = .ok (Value.string { data := #[] }) w := fun w => by kernel_rfl
set_option maxRecDepth 100000 in
theorem t20 : Tryd.prog.underlying (ρ.t 20) = some (TypeDesc.interface #[]) := by kernel_rfl
set_option maxRecDepth 100000 in
theorem a20 : ∀ w, (isAgg (ρ.t 20)).run Tryd.prog w = .ok false w := fun w => by kernel_rfl
set_option maxRecDepth 100000 in
theorem z20 : ∀ w, (Go.sizeOf (ρ.t 20)).run Tryd.prog w = .ok 1 w := fun w => by kernel_rfl
set_option maxRecDepth 100000 in
theorem v20 : ∀ w, (zeroValue (ρ.t 20)).run Tryd.prog w = .ok (Value.nilIface) w := fun w => by kernel_rfl
set_option maxRecDepth 100000 in
theorem t31 : Tryd.prog.underlying (ρ.t 31) = some (TypeDesc.slice (ρ.t 9)) := by kernel_rfl
set_option maxRecDepth 100000 in
theorem a31 : ∀ w, (isAgg (ρ.t 31)).run Tryd.prog w = .ok false w := fun w => by kernel_rfl
set_option maxRecDepth 100000 in
theorem z31 : ∀ w, (Go.sizeOf (ρ.t 31)).run Tryd.prog w = .ok 1 w := fun w => by kernel_rfl
set_option maxRecDepth 100000 in
theorem v31 : ∀ w, (zeroValue (ρ.t 31)).run Tryd.prog w = .ok (Value.slice none 0 0) w := fun w => by kernel_rfl
set_option maxRecDepth 100000 in
theorem t37 : Tryd.prog.underlying (ρ.t 37) = some (TypeDesc.slice (ρ.t 5)) := by kernel_rfl
set_option maxRecDepth 100000 in
theorem a37 : ∀ w, (isAgg (ρ.t 37)).run Tryd.prog w = .ok false w := fun w => by kernel_rfl
set_option maxRecDepth 100000 in
theorem z37 : ∀ w, (Go.sizeOf (ρ.t 37)).run Tryd.prog w = .ok 1 w := fun w => by kernel_rfl
set_option maxRecDepth 100000 in
theorem v37 : ∀ w, (zeroValue (ρ.t 37)).run Tryd.prog w = .ok (Value.slice none 0 0) w := fun w => by kernel_rfl
set_option maxRecDepth 100000 in
theorem t70 : Tryd.prog.underlying (ρ.t 70) = some (TypeDesc.pointer (ρ.t 72)) := by kernel_rfl
set_option maxRecDepth 100000 in
theorem a70 : ∀ w, (isAgg (ρ.t 70)).run Tryd.prog w = .ok false w := fun w => by kernel_rfl
set_option maxRecDepth 100000 in
theorem z70 : ∀ w, (Go.sizeOf (ρ.t 70)).run Tryd.prog w = .ok 1 w := fun w => by kernel_rfl
set_option maxRecDepth 100000 in
theorem v70 : ∀ w, (zeroValue (ρ.t 70)).run Tryd.prog w = .ok (Value.pointer none) w := fun w => by kernel_rfl
set_option maxRecDepth 100000 in
theorem t72 : Tryd.prog.underlying (ρ.t 72) = some (TypeDesc.struct #[{ name := "addr", type := ρ.t 70, offset := 0, embedded := false, tag := "", pkgPath := "strings", byteOffset := 0 }, { name := "buf", type := ρ.t 37, offset := 1, embedded := false, tag := "", pkgPath := "strings", byteOffset := 8 }]) := by kernel_rfl
set_option maxRecDepth 100000 in
theorem a72 : ∀ w, (isAgg (ρ.t 72)).run Tryd.prog w = .ok true w := fun w => by kernel_rfl
set_option maxRecDepth 100000 in
theorem z72 : ∀ w, (Go.sizeOf (ρ.t 72)).run Tryd.prog w = .ok 2 w := fun w => by kernel_rfl
set_option maxRecDepth 100000 in
theorem v72 : ∀ w, (zeroValue (ρ.t 72)).run Tryd.prog w = .ok (Value.agg #[Value.pointer none, Value.slice none 0 0]) w := fun w => by kernel_rfl
set_option maxRecDepth 100000 in
theorem t75 : Tryd.prog.underlying (ρ.t 75) = some (TypeDesc.interface #[("Error", ρ.t 80)]) := by kernel_rfl
set_option maxRecDepth 100000 in
theorem a75 : ∀ w, (isAgg (ρ.t 75)).run Tryd.prog w = .ok false w := fun w => by kernel_rfl
set_option maxRecDepth 100000 in
theorem z75 : ∀ w, (Go.sizeOf (ρ.t 75)).run Tryd.prog w = .ok 1 w := fun w => by kernel_rfl
set_option maxRecDepth 100000 in
theorem v75 : ∀ w, (zeroValue (ρ.t 75)).run Tryd.prog w = .ok (Value.nilIface) w := fun w => by kernel_rfl
set_option maxRecDepth 100000 in
theorem t76 : Tryd.prog.underlying (ρ.t 76) = some (TypeDesc.tuple #[ρ.t 3, ρ.t 75]) := by kernel_rfl
set_option maxRecDepth 100000 in
theorem a76 : ∀ w, (isAgg (ρ.t 76)).run Tryd.prog w = .ok false w := fun w => by kernel_rfl
set_option maxRecDepth 100000 in
theorem z76 : ∀ w, (Go.sizeOf (ρ.t 76)).run Tryd.prog w = .ok 1 w := fun w => by kernel_rfl
set_option maxRecDepth 100000 in
theorem v76 : ∀ w, (zeroValue (ρ.t 76)).run Tryd.prog w = .ok (Value.tuple #[Value.int IntKind.i64 0, Value.nilIface]) w := fun w => by kernel_rfl
set_option maxRecDepth 100000 in
theorem t127 : Tryd.prog.underlying (ρ.t 127) = some (TypeDesc.pointer (ρ.t 5)) := by kernel_rfl
set_option maxRecDepth 100000 in
theorem a127 : ∀ w, (isAgg (ρ.t 127)).run Tryd.prog w = .ok false w := fun w => by kernel_rfl
set_option maxRecDepth 100000 in
theorem z127 : ∀ w, (Go.sizeOf (ρ.t 127)).run Tryd.prog w = .ok 1 w := fun w => by kernel_rfl
set_option maxRecDepth 100000 in
theorem v127 : ∀ w, (zeroValue (ρ.t 127)).run Tryd.prog w = .ok (Value.pointer none) w := fun w => by kernel_rfl
set_option maxRecDepth 100000 in
theorem t164 : Tryd.prog.underlying (ρ.t 164) = some (TypeDesc.unsafePointer) := by kernel_rfl
set_option maxRecDepth 100000 in
theorem a164 : ∀ w, (isAgg (ρ.t 164)).run Tryd.prog w = .ok false w := fun w => by kernel_rfl
set_option maxRecDepth 100000 in
theorem z164 : ∀ w, (Go.sizeOf (ρ.t 164)).run Tryd.prog w = .ok 1 w := fun w => by kernel_rfl
set_option maxRecDepth 100000 in
theorem v164 : ∀ w, (zeroValue (ρ.t 164)).run Tryd.prog w = .ok (Value.pointer none) w := fun w => by kernel_rfl
theorem lays : Lays.n156 Tryd.prog ρ := { mixed := mixed, f156 := f156, f165 := f165, f166 := f166, f169 := f169, f240 := f240, f241 := f241, f276 := f276, f277 := f277, t0 := t0, a0 := a0, z0 := z0, v0 := v0, t3 := t3, a3 := a3, z3 := z3, v3 := v3, t4 := t4, a4 := a4, z4 := z4, v4 := v4, t9 := t9, a9 := a9, z9 := z9, v9 := v9, t20 := t20, a20 := a20, z20 := z20, v20 := v20, t31 := t31, a31 := a31, z31 := z31, v31 := v31, t37 := t37, a37 := a37, z37 := z37, v37 := v37, t70 := t70, a70 := a70, z70 := z70, v70 := v70, t72 := t72, a72 := a72, z72 := z72, v72 := v72, t75 := t75, a75 := a75, z75 := z75, v75 := v75, t76 := t76, a76 := a76, z76 := z76, v76 := v76, t127 := t127, a127 := a127, z127 := z127, v127 := v127, t164 := t164, a164 := a164, z164 := z164, v164 := v164 }
set_option maxRecDepth 100000 in
theorem extra : Builder.Extra Tryd.prog ρ where
  sizeBuilder := by kernel_rfl
  liesBuilder := by kernel_rfl
  t5 := t5
  a5 := a5
  z5 := z5
  v5 := v5
  infoByte := by kernel_rfl
  cellsByte := by kernel_rfl
  sizeByte := by kernel_rfl
  neB5 := by decide
end
end Go.Proofs.YtaodbpejeglmlaaDoor.Jn
