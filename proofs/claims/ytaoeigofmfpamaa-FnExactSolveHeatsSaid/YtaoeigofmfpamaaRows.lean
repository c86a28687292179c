/-
  No cell of these rows narrows 'for every input' (looked for: loops, veiled, ifaces, maps, wideKeys, modest, calm, conditions, laid).
  DERIVED. THE GIVEN ROWS OF THIS SEAT. 5 by the template 'for every input the law returns true; each argument reads behind the call as it read before'; 0 by the template 'total and deterministic' (their statements: YtaoeigofmfpamaaTotals.lean).
  GIVEN WITH THE SEED: the statements are not yours to turn. If you find one false, say at which input.
  Laid BY PROGRAM, IN A SANDBOX (cutbox-rows.mjs): the forced cells as the released guide's own fill.sh prints them over the translation 534caf1058969db6… (all of the seat's roots in one cut). By AI agents, Wed Nov 11 2026. No macro, syntax, notation, axiom, sorry.
-/
import Derived.Test.YtaoeigofmfpamaaChecked
import GoSem.Claim
import GoSem.ClaimJoined
import GoSem.ClaimMapViews
import Derived.JoinedTies
import Derived.KernelRfl
namespace Go.Proofs.Ytaoeigofmfpamaa
/- THE CELL 'sum', in the pinned program and in every row, IS THE sha256 OF THE DUMP (.gsa) THAT YtaoeigofmfpamaaProg.lean LOADS. Nothing in Lean hashes anything: it is a label: what it is worth is what the hold of that sum in a sandbox is worth. -/
noncomputable def Try.pinned : Pinned := { name := "ytaoeigofmfpamaa", sum := "534caf1058969db6fbd1bfef82ba85e48e26b7103c6d25cf4d8af86834fa72d4", checked := Try.checked }
namespace Rows
def none {H : Type} : Left H := { results := [], args := [] }

/-- 'laws.FnExactLongestTime': WHATEVER THE INPUT: true; the input reads as it did. -/
def fnExactLongestTimeSpec : ChangeSpec := { name := "fnExactLongestTime", fn := fun _ => fun
  | [d] => { results := [.lit (.bool true)], args := [d] }
  | _ => none }
def fnExactLongestTimeRow : OpenClaim := { program := "ytaoeigofmfpamaa", sum := "534caf1058969db6fbd1bfef82ba85e48e26b7103c6d25cf4d8af86834fa72d4", func := "loop.example/g01229/laws.FnExactLongestTime", spec := "fnExactLongestTime", inPlace := ["math.Float32bits", "math.Float64bits", "math.Float64frombits"], apart := false }
def FnExactLongestTimeSaid : Prop := fnExactLongestTimeRow.holds Try.pinned (OpenSpec.ofChange fnExactLongestTimeSpec)

/-- ITS FALSE NEIGHBOUR: 'it returns false'. Refute it at one input. -/
def fnExactLongestTimeWrong : ChangeSpec := { name := "fnExactLongestTime", fn := fun _ => fun
  | [d] => { results := [.lit (.bool false)], args := [d] }
  | _ => none }
def FnExactLongestTimeWrongFalsely : Prop := fnExactLongestTimeRow.holds Try.pinned (OpenSpec.ofChange fnExactLongestTimeWrong)

/-- 'laws.FnExactSameChimney': WHATEVER THE INPUT: true; the input reads as it did. -/
def fnExactSameChimneySpec : ChangeSpec := { name := "fnExactSameChimney", fn := fun _ => fun
  | [d1, d2] => { results := [.lit (.bool true)], args := [d1, d2] }
  | _ => none }
def fnExactSameChimneyRow : OpenClaim := { program := "ytaoeigofmfpamaa", sum := "534caf1058969db6fbd1bfef82ba85e48e26b7103c6d25cf4d8af86834fa72d4", func := "loop.example/g01229/laws.FnExactSameChimney", spec := "fnExactSameChimney", inPlace := ["math.Float32bits"], apart := false }
def FnExactSameChimneySaid : Prop := fnExactSameChimneyRow.holds Try.pinned (OpenSpec.ofChange fnExactSameChimneySpec)

/-- ITS FALSE NEIGHBOUR: 'it returns false'. Refute it at one input. -/
def fnExactSameChimneyWrong : ChangeSpec := { name := "fnExactSameChimney", fn := fun _ => fun
  | [d1, d2] => { results := [.lit (.bool false)], args := [d1, d2] }
  | _ => none }
def FnExactSameChimneyWrongFalsely : Prop := fnExactSameChimneyRow.holds Try.pinned (OpenSpec.ofChange fnExactSameChimneyWrong)

/-- 'laws.FnExactSameFlat': WHATEVER THE INPUT: true; the input reads as it did. -/
def fnExactSameFlatSpec : ChangeSpec := { name := "fnExactSameFlat", fn := fun _ => fun
  | [d1, d2] => { results := [.lit (.bool true)], args := [d1, d2] }
  | _ => none }
def fnExactSameFlatRow : OpenClaim := { program := "ytaoeigofmfpamaa", sum := "534caf1058969db6fbd1bfef82ba85e48e26b7103c6d25cf4d8af86834fa72d4", func := "loop.example/g01229/laws.FnExactSameFlat", spec := "fnExactSameFlat", inPlace := ["math.Float32bits"], apart := false }
def FnExactSameFlatSaid : Prop := fnExactSameFlatRow.holds Try.pinned (OpenSpec.ofChange fnExactSameFlatSpec)

/-- ITS FALSE NEIGHBOUR: 'it returns false'. Refute it at one input. -/
def fnExactSameFlatWrong : ChangeSpec := { name := "fnExactSameFlat", fn := fun _ => fun
  | [d1, d2] => { results := [.lit (.bool false)], args := [d1, d2] }
  | _ => none }
def FnExactSameFlatWrongFalsely : Prop := fnExactSameFlatRow.holds Try.pinned (OpenSpec.ofChange fnExactSameFlatWrong)

/-- 'laws.FnExactSmokeInto': WHATEVER THE INPUT: true; the input reads as it did. -/
def fnExactSmokeIntoSpec : ChangeSpec := { name := "fnExactSmokeInto", fn := fun _ => fun
  | [d1, d2, d3, d4] => { results := [.lit (.bool true)], args := [d1, d2, d3, d4] }
  | _ => none }
def fnExactSmokeIntoRow : OpenClaim := { program := "ytaoeigofmfpamaa", sum := "534caf1058969db6fbd1bfef82ba85e48e26b7103c6d25cf4d8af86834fa72d4", func := "loop.example/g01229/laws.FnExactSmokeInto", spec := "fnExactSmokeInto", inPlace := ["math.Float32bits", "math.Float64bits", "math.Float64frombits"], apart := false }
def FnExactSmokeIntoSaid : Prop := fnExactSmokeIntoRow.holds Try.pinned (OpenSpec.ofChange fnExactSmokeIntoSpec)

/-- ITS FALSE NEIGHBOUR: 'it returns false'. Refute it at one input. -/
def fnExactSmokeIntoWrong : ChangeSpec := { name := "fnExactSmokeInto", fn := fun _ => fun
  | [d1, d2, d3, d4] => { results := [.lit (.bool false)], args := [d1, d2, d3, d4] }
  | _ => none }
def FnExactSmokeIntoWrongFalsely : Prop := fnExactSmokeIntoRow.holds Try.pinned (OpenSpec.ofChange fnExactSmokeIntoWrong)

/-- 'laws.FnExactSolveHeats': WHATEVER THE INPUT: true; the input reads as it did. -/
def fnExactSolveHeatsSpec : ChangeSpec := { name := "fnExactSolveHeats", fn := fun _ => fun
  | [d1, d2] => { results := [.lit (.bool true)], args := [d1, d2] }
  | _ => none }
def fnExactSolveHeatsRow : OpenClaim := { program := "ytaoeigofmfpamaa", sum := "534caf1058969db6fbd1bfef82ba85e48e26b7103c6d25cf4d8af86834fa72d4", func := "loop.example/g01229/laws.FnExactSolveHeats", spec := "fnExactSolveHeats", inPlace := ["math.Float64bits", "math.Float64frombits"], apart := false }
def FnExactSolveHeatsSaid : Prop := fnExactSolveHeatsRow.holds Try.pinned (OpenSpec.ofChange fnExactSolveHeatsSpec)

/-- ITS FALSE NEIGHBOUR: 'it returns false'. Refute it at one input. -/
def fnExactSolveHeatsWrong : ChangeSpec := { name := "fnExactSolveHeats", fn := fun _ => fun
  | [d1, d2] => { results := [.lit (.bool false)], args := [d1, d2] }
  | _ => none }
def FnExactSolveHeatsWrongFalsely : Prop := fnExactSolveHeatsRow.holds Try.pinned (OpenSpec.ofChange fnExactSolveHeatsWrong)

/- THE SECOND FORM. 'bulk': how many values and letters a reading holds, each counted each time it is reached (what is shared counts as often as it is met; a slice's spare places count too). A statement '..UptoSaid' is the law's where the arguments, and the package variables that the reading takes, are together of bulk at most 1048576: NARROWER than '..Said'. Prove '..Said' where nothing that the law and all that it calls make is longer than what came in: it says more and counts as full. Else prove '..UptoSaid'. A law counts once. -/
mutual
def uptoBulk {H : Type} : DataW H → Nat
  | .lit (.string bytes) => bytes.length + 1
  | .lit _ => 1
  | .nil => 1
  | .ptr d => uptoBulk d + 1
  | .slice elems spare => uptoBulkAll elems + uptoBulkAll spare + 1
  | .agg parts => uptoBulkAll parts + 1
  | .iface _ d => uptoBulk d + 1
  | .map entries => uptoBulkEntries entries + 1
  | .held _ => 1
def uptoBulkAll {H : Type} : List (DataW H) → Nat
  | [] => 0
  | d :: r => uptoBulk d + uptoBulkAll r
def uptoBulkEntries {H : Type} : List (Lit × DataW H) → Nat
  | [] => 0
  | x :: r => uptoBulkEntry x + uptoBulkEntries r
def uptoBulkEntry {H : Type} : Lit × DataW H → Nat
  | (.string bytes, d) => bytes.length + uptoBulk d + 1
  | (_, d) => uptoBulk d + 1
 end
def uptoSmall : (H : Type) → List (DataW H) → Bool := fun _ ds => decide (uptoBulkAll ds ≤ 1048576)
def OpenSpec.upto (s : _root_.Go.ChangeSpec) : _root_.Go.OpenSpec := { _root_.Go.OpenSpec.ofChange s with cond := some uptoSmall }

/-- 'laws.FnExactLongestTime', WHERE WHAT IT READS IS OF BULK AT MOST 1048576: true; the input reads as it did. -/
def fnExactLongestTimeUptoRow : OpenClaim := { program := "ytaoeigofmfpamaa", sum := "534caf1058969db6fbd1bfef82ba85e48e26b7103c6d25cf4d8af86834fa72d4", func := "loop.example/g01229/laws.FnExactLongestTime", spec := "fnExactLongestTime", inPlace := ["math.Float32bits", "math.Float64bits", "math.Float64frombits"], apart := false, narrowed := true }
def FnExactLongestTimeUptoSaid : Prop := fnExactLongestTimeUptoRow.holds Try.pinned (OpenSpec.upto fnExactLongestTimeSpec)

/-- 'laws.FnExactSameChimney', WHERE WHAT IT READS IS OF BULK AT MOST 1048576: true; the input reads as it did. -/
def fnExactSameChimneyUptoRow : OpenClaim := { program := "ytaoeigofmfpamaa", sum := "534caf1058969db6fbd1bfef82ba85e48e26b7103c6d25cf4d8af86834fa72d4", func := "loop.example/g01229/laws.FnExactSameChimney", spec := "fnExactSameChimney", inPlace := ["math.Float32bits"], apart := false, narrowed := true }
def FnExactSameChimneyUptoSaid : Prop := fnExactSameChimneyUptoRow.holds Try.pinned (OpenSpec.upto fnExactSameChimneySpec)

/-- 'laws.FnExactSameFlat', WHERE WHAT IT READS IS OF BULK AT MOST 1048576: true; the input reads as it did. -/
def fnExactSameFlatUptoRow : OpenClaim := { program := "ytaoeigofmfpamaa", sum := "534caf1058969db6fbd1bfef82ba85e48e26b7103c6d25cf4d8af86834fa72d4", func := "loop.example/g01229/laws.FnExactSameFlat", spec := "fnExactSameFlat", inPlace := ["math.Float32bits"], apart := false, narrowed := true }
def FnExactSameFlatUptoSaid : Prop := fnExactSameFlatUptoRow.holds Try.pinned (OpenSpec.upto fnExactSameFlatSpec)

/-- 'laws.FnExactSmokeInto', WHERE WHAT IT READS IS OF BULK AT MOST 1048576: true; the input reads as it did. -/
def fnExactSmokeIntoUptoRow : OpenClaim := { program := "ytaoeigofmfpamaa", sum := "534caf1058969db6fbd1bfef82ba85e48e26b7103c6d25cf4d8af86834fa72d4", func := "loop.example/g01229/laws.FnExactSmokeInto", spec := "fnExactSmokeInto", inPlace := ["math.Float32bits", "math.Float64bits", "math.Float64frombits"], apart := false, narrowed := true }
def FnExactSmokeIntoUptoSaid : Prop := fnExactSmokeIntoUptoRow.holds Try.pinned (OpenSpec.upto fnExactSmokeIntoSpec)

/-- 'laws.FnExactSolveHeats', WHERE WHAT IT READS IS OF BULK AT MOST 1048576: true; the input reads as it did. -/
def fnExactSolveHeatsUptoRow : OpenClaim := { program := "ytaoeigofmfpamaa", sum := "534caf1058969db6fbd1bfef82ba85e48e26b7103c6d25cf4d8af86834fa72d4", func := "loop.example/g01229/laws.FnExactSolveHeats", spec := "fnExactSolveHeats", inPlace := ["math.Float64bits", "math.Float64frombits"], apart := false, narrowed := true }
def FnExactSolveHeatsUptoSaid : Prop := fnExactSolveHeatsUptoRow.holds Try.pinned (OpenSpec.upto fnExactSolveHeatsSpec)

end Rows
end Go.Proofs.Ytaoeigofmfpamaa
