/-
  No cell of these rows narrows 'for every input' (looked for: loops, veiled, ifaces, maps, wideKeys, modest, calm, conditions, laid).
  DERIVED. THE GIVEN ROWS OF THIS SEAT. 4 by the template 'for every input the law returns true; each argument reads behind the call as it read before'; 0 by the template 'total and deterministic' (their statements: YtaodbpejeglmlaaTotals.lean).
  GIVEN WITH THE SEED: the statements are not yours to turn. If you find one false, say at which input.
  Laid BY PROGRAM, IN A SANDBOX (cutbox-rows.mjs): the forced cells as the released guide's own fill.sh prints them over the translation 1c325e050dd2d9af… (all of the seat's roots in one cut). By AI agents, Wed Nov 11 2026. No macro, syntax, notation, axiom, sorry.
-/
import Derived.Test.YtaodbpejeglmlaaChecked
import GoSem.Claim
import GoSem.ClaimJoined
import GoSem.ClaimMapViews
import Derived.JoinedTies
import Derived.KernelRfl
namespace Go.Proofs.Ytaodbpejeglmlaa
/- THE CELL 'sum', in the pinned program and in every row, IS THE sha256 OF THE DUMP (.gsa) THAT YtaodbpejeglmlaaProg.lean LOADS. Nothing in Lean hashes anything: it is a label: what it is worth is what the hold of that sum in a sandbox is worth. -/
noncomputable def Try.pinned : Pinned := { name := "ytaodbpejeglmlaa", sum := "1c325e050dd2d9affe87b42fe79445cb79c00abcc5bd8f9e5592075ccf12344d", checked := Try.checked }
namespace Rows
def none {H : Type} : Left H := { results := [], args := [] }

/-- 'laws.FnExactNumberText': WHATEVER THE INPUT: true; the input reads as it did. -/
def fnExactNumberTextSpec : ChangeSpec := { name := "fnExactNumberText", fn := fun _ => fun
  | [d] => { results := [.lit (.bool true)], args := [d] }
  | _ => none }
def fnExactNumberTextRow : OpenClaim := { program := "ytaodbpejeglmlaa", sum := "1c325e050dd2d9affe87b42fe79445cb79c00abcc5bd8f9e5592075ccf12344d", func := "loop.example/g01229/laws.FnExactNumberText", spec := "fnExactNumberText", inPlace := ["math.Float32bits"], apart := false }
def FnExactNumberTextSaid : Prop := fnExactNumberTextRow.holds Try.pinned (OpenSpec.ofChange fnExactNumberTextSpec)

/-- ITS FALSE NEIGHBOUR: 'it returns false'. Refute it at one input. -/
def fnExactNumberTextWrong : ChangeSpec := { name := "fnExactNumberText", fn := fun _ => fun
  | [d] => { results := [.lit (.bool false)], args := [d] }
  | _ => none }
def FnExactNumberTextWrongFalsely : Prop := fnExactNumberTextRow.holds Try.pinned (OpenSpec.ofChange fnExactNumberTextWrong)

/-- 'laws.FnExactReadNumber': WHATEVER THE INPUT: true; the input reads as it did. -/
def fnExactReadNumberSpec : ChangeSpec := { name := "fnExactReadNumber", fn := fun _ => fun
  | [d] => { results := [.lit (.bool true)], args := [d] }
  | _ => none }
def fnExactReadNumberRow : OpenClaim := { program := "ytaodbpejeglmlaa", sum := "1c325e050dd2d9affe87b42fe79445cb79c00abcc5bd8f9e5592075ccf12344d", func := "loop.example/g01229/laws.FnExactReadNumber", spec := "fnExactReadNumber", inPlace := ["math.Float32frombits", "math.Float32bits", "internal/bytealg.IndexByteString"], apart := false }
def FnExactReadNumberSaid : Prop := fnExactReadNumberRow.holds Try.pinned (OpenSpec.ofChange fnExactReadNumberSpec)

/-- ITS FALSE NEIGHBOUR: 'it returns false'. Refute it at one input. -/
def fnExactReadNumberWrong : ChangeSpec := { name := "fnExactReadNumber", fn := fun _ => fun
  | [d] => { results := [.lit (.bool false)], args := [d] }
  | _ => none }
def FnExactReadNumberWrongFalsely : Prop := fnExactReadNumberRow.holds Try.pinned (OpenSpec.ofChange fnExactReadNumberWrong)

/-- 'laws.FnExactWoodText': WHATEVER THE INPUT: true; the input reads as it did. -/
def fnExactWoodTextSpec : ChangeSpec := { name := "fnExactWoodText", fn := fun _ => fun
  | [d] => { results := [.lit (.bool true)], args := [d] }
  | _ => none }
def fnExactWoodTextRow : OpenClaim := { program := "ytaodbpejeglmlaa", sum := "1c325e050dd2d9affe87b42fe79445cb79c00abcc5bd8f9e5592075ccf12344d", func := "loop.example/g01229/laws.FnExactWoodText", spec := "fnExactWoodText", inPlace := ["math.Float32bits", "math.Float64bits", "math.Float64frombits", "internal/abi.NoEscape", "internal/bytealg.MakeNoZero"], apart := false }
def FnExactWoodTextSaid : Prop := fnExactWoodTextRow.holds Try.pinned (OpenSpec.ofChange fnExactWoodTextSpec)

/-- ITS FALSE NEIGHBOUR: 'it returns false'. Refute it at one input. -/
def fnExactWoodTextWrong : ChangeSpec := { name := "fnExactWoodText", fn := fun _ => fun
  | [d] => { results := [.lit (.bool false)], args := [d] }
  | _ => none }
def FnExactWoodTextWrongFalsely : Prop := fnExactWoodTextRow.holds Try.pinned (OpenSpec.ofChange fnExactWoodTextWrong)

/-- 'laws.FnExactSmokeInto': WHATEVER THE INPUT: true; the input reads as it did. -/
def fnExactSmokeIntoSpec : ChangeSpec := { name := "fnExactSmokeInto", fn := fun _ => fun
  | [d1, d2, d3, d4] => { results := [.lit (.bool true)], args := [d1, d2, d3, d4] }
  | _ => none }
def fnExactSmokeIntoRow : OpenClaim := { program := "ytaodbpejeglmlaa", sum := "1c325e050dd2d9affe87b42fe79445cb79c00abcc5bd8f9e5592075ccf12344d", func := "loop.example/g01229/laws.FnExactSmokeInto", spec := "fnExactSmokeInto", inPlace := ["math.Float32bits", "math.Float64bits", "math.Float64frombits"], apart := false }
def FnExactSmokeIntoSaid : Prop := fnExactSmokeIntoRow.holds Try.pinned (OpenSpec.ofChange fnExactSmokeIntoSpec)

/-- ITS FALSE NEIGHBOUR: 'it returns false'. Refute it at one input. -/
def fnExactSmokeIntoWrong : ChangeSpec := { name := "fnExactSmokeInto", fn := fun _ => fun
  | [d1, d2, d3, d4] => { results := [.lit (.bool false)], args := [d1, d2, d3, d4] }
  | _ => none }
def FnExactSmokeIntoWrongFalsely : Prop := fnExactSmokeIntoRow.holds Try.pinned (OpenSpec.ofChange fnExactSmokeIntoWrong)

/- THE SECOND FORM. 'bulk': how many values and letters a reading holds, each counted each time it is reached (what is shared counts as often as it is met; a slice's spare places count too). A statement '..UptoSaid' is the law's where the arguments, and the package variables that the reading takes, are together of bulk at most 1048576: NARROWER than '..Said'. Prove '..Said' where nothing that the law and all that it calls make is longer than what came in: it says more and counts as full. Else prove '..UptoSaid'. A law counts once. -/
mutual
def uptoBulk {H : Type} : DataW H → Nat
  | .lit (.string bytes) => bytes.length + 1
  | .lit _ => 1
  | .nil => 1
  | .ptr d => uptoBulk d + 1
  | .slice elems spare => uptoBulkAll elems + uptoBulkAll spare + 1
  | .agg parts => uptoBulkAll parts + 1
  | .iface _ d => uptoBulk d + 1
  | .map entries => uptoBulkEntries entries + 1
  | .held _ => 1
def uptoBulkAll {H : Type} : List (DataW H) → Nat
  | [] => 0
  | d :: r => uptoBulk d + uptoBulkAll r
def uptoBulkEntries {H : Type} : List (Lit × DataW H) → Nat
  | [] => 0
  | x :: r => uptoBulkEntry x + uptoBulkEntries r
def uptoBulkEntry {H : Type} : Lit × DataW H → Nat
  | (.string bytes, d) => bytes.length + uptoBulk d + 1
  | (_, d) => uptoBulk d + 1
 end
def uptoSmall : (H : Type) → List (DataW H) → Bool := fun _ ds => decide (uptoBulkAll ds ≤ 1048576)
def OpenSpec.upto (s : _root_.Go.ChangeSpec) : _root_.Go.OpenSpec := { _root_.Go.OpenSpec.ofChange s with cond := some uptoSmall }

/-- 'laws.FnExactNumberText', WHERE WHAT IT READS IS OF BULK AT MOST 1048576: true; the input reads as it did. -/
def fnExactNumberTextUptoRow : OpenClaim := { program := "ytaodbpejeglmlaa", sum := "1c325e050dd2d9affe87b42fe79445cb79c00abcc5bd8f9e5592075ccf12344d", func := "loop.example/g01229/laws.FnExactNumberText", spec := "fnExactNumberText", inPlace := ["math.Float32bits"], apart := false, narrowed := true }
def FnExactNumberTextUptoSaid : Prop := fnExactNumberTextUptoRow.holds Try.pinned (OpenSpec.upto fnExactNumberTextSpec)

/-- 'laws.FnExactReadNumber', WHERE WHAT IT READS IS OF BULK AT MOST 1048576: true; the input reads as it did. -/
def fnExactReadNumberUptoRow : OpenClaim := { program := "ytaodbpejeglmlaa", sum := "1c325e050dd2d9affe87b42fe79445cb79c00abcc5bd8f9e5592075ccf12344d", func := "loop.example/g01229/laws.FnExactReadNumber", spec := "fnExactReadNumber", inPlace := ["math.Float32frombits", "math.Float32bits", "internal/bytealg.IndexByteString"], apart := false, narrowed := true }
def FnExactReadNumberUptoSaid : Prop := fnExactReadNumberUptoRow.holds Try.pinned (OpenSpec.upto fnExactReadNumberSpec)

/-- 'laws.FnExactWoodText', WHERE WHAT IT READS IS OF BULK AT MOST 1048576: true; the input reads as it did. -/
def fnExactWoodTextUptoRow : OpenClaim := { program := "ytaodbpejeglmlaa", sum := "1c325e050dd2d9affe87b42fe79445cb79c00abcc5bd8f9e5592075ccf12344d", func := "loop.example/g01229/laws.FnExactWoodText", spec := "fnExactWoodText", inPlace := ["math.Float32bits", "math.Float64bits", "math.Float64frombits", "internal/abi.NoEscape", "internal/bytealg.MakeNoZero"], apart := false, narrowed := true }
def FnExactWoodTextUptoSaid : Prop := fnExactWoodTextUptoRow.holds Try.pinned (OpenSpec.upto fnExactWoodTextSpec)

/-- 'laws.FnExactSmokeInto', WHERE WHAT IT READS IS OF BULK AT MOST 1048576: true; the input reads as it did. -/
def fnExactSmokeIntoUptoRow : OpenClaim := { program := "ytaodbpejeglmlaa", sum := "1c325e050dd2d9affe87b42fe79445cb79c00abcc5bd8f9e5592075ccf12344d", func := "loop.example/g01229/laws.FnExactSmokeInto", spec := "fnExactSmokeInto", inPlace := ["math.Float32bits", "math.Float64bits", "math.Float64frombits"], apart := false, narrowed := true }
def FnExactSmokeIntoUptoSaid : Prop := fnExactSmokeIntoUptoRow.holds Try.pinned (OpenSpec.upto fnExactSmokeIntoSpec)

end Rows
end Go.Proofs.Ytaodbpejeglmlaa
