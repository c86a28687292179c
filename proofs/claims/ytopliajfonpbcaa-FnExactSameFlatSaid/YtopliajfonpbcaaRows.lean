/-
  No cell of these rows narrows 'for every input' (looked for: loops, veiled, ifaces, maps, wideKeys, modest, calm, conditions, laid).
  DERIVED. THE GIVEN ROWS OF THIS SEAT. 9 by the template 'for every input the law returns true; each argument reads behind the call as it read before'; 0 by the template 'total and deterministic' (their statements: YtopliajfonpbcaaTotals.lean).
  GIVEN WITH THE SEED: the statements are not yours to turn. If you find one false, say at which input.
  Laid BY PROGRAM, IN A SANDBOX (cutbox-rows.mjs): the forced cells as the released guide's own fill.sh prints them over the translation fc871ca79b868415… (all of the seat's roots in one cut). By AI agents, Wed Nov 11 2026. No macro, syntax, notation, axiom, sorry.
-/
import Derived.Test.YtopliajfonpbcaaChecked
import GoSem.Claim
import GoSem.ClaimJoined
import GoSem.ClaimMapViews
import Derived.JoinedTies
import Derived.KernelRfl
namespace Go.Proofs.Ytopliajfonpbcaa
/- THE CELL 'sum', in the pinned program and in every row, IS THE sha256 OF THE DUMP (.gsa) THAT YtopliajfonpbcaaProg.lean LOADS. Nothing in Lean hashes anything: it is a label: what it is worth is what the hold of that sum in a sandbox is worth. -/
noncomputable def Try.pinned : Pinned := { name := "ytopliajfonpbcaa", sum := "fc871ca79b8684150572528b5ab2f4a1054efb2900fd8960a7273cedf28c2884", checked := Try.checked }
namespace Rows
def none {H : Type} : Left H := { results := [], args := [] }

/-- 'laws.FnExactSolveHeats': WHATEVER THE INPUT: true; the input reads as it did. -/
def fnExactSolveHeatsSpec : ChangeSpec := { name := "fnExactSolveHeats", fn := fun _ => fun
  | [d1, d2] => { results := [.lit (.bool true)], args := [d1, d2] }
  | _ => none }
def fnExactSolveHeatsRow : OpenClaim := { program := "ytopliajfonpbcaa", sum := "fc871ca79b8684150572528b5ab2f4a1054efb2900fd8960a7273cedf28c2884", func := "loop.example/g01229/laws.FnExactSolveHeats", spec := "fnExactSolveHeats", inPlace := ["math.Float64bits", "math.Float64frombits"], apart := false }
def FnExactSolveHeatsSaid : Prop := fnExactSolveHeatsRow.holds Try.pinned (OpenSpec.ofChange fnExactSolveHeatsSpec)

/-- ITS FALSE NEIGHBOUR: 'it returns false'. Refute it at one input. -/
def fnExactSolveHeatsWrong : ChangeSpec := { name := "fnExactSolveHeats", fn := fun _ => fun
  | [d1, d2] => { results := [.lit (.bool false)], args := [d1, d2] }
  | _ => none }
def FnExactSolveHeatsWrongFalsely : Prop := fnExactSolveHeatsRow.holds Try.pinned (OpenSpec.ofChange fnExactSolveHeatsWrong)

/-- 'laws.FnExactSameFlat': WHATEVER THE INPUT: true; the input reads as it did. -/
def fnExactSameFlatSpec : ChangeSpec := { name := "fnExactSameFlat", fn := fun _ => fun
  | [d1, d2] => { results := [.lit (.bool true)], args := [d1, d2] }
  | _ => none }
def fnExactSameFlatRow : OpenClaim := { program := "ytopliajfonpbcaa", sum := "fc871ca79b8684150572528b5ab2f4a1054efb2900fd8960a7273cedf28c2884", func := "loop.example/g01229/laws.FnExactSameFlat", spec := "fnExactSameFlat", inPlace := ["math.Float32bits"], apart := false }
def FnExactSameFlatSaid : Prop := fnExactSameFlatRow.holds Try.pinned (OpenSpec.ofChange fnExactSameFlatSpec)

/-- ITS FALSE NEIGHBOUR: 'it returns false'. Refute it at one input. -/
def fnExactSameFlatWrong : ChangeSpec := { name := "fnExactSameFlat", fn := fun _ => fun
  | [d1, d2] => { results := [.lit (.bool false)], args := [d1, d2] }
  | _ => none }
def FnExactSameFlatWrongFalsely : Prop := fnExactSameFlatRow.holds Try.pinned (OpenSpec.ofChange fnExactSameFlatWrong)

/-- 'laws.FnExactValidFlat': WHATEVER THE INPUT: true; the input reads as it did. -/
def fnExactValidFlatSpec : ChangeSpec := { name := "fnExactValidFlat", fn := fun _ => fun
  | [d] => { results := [.lit (.bool true)], args := [d] }
  | _ => none }
def fnExactValidFlatRow : OpenClaim := { program := "ytopliajfonpbcaa", sum := "fc871ca79b8684150572528b5ab2f4a1054efb2900fd8960a7273cedf28c2884", func := "loop.example/g01229/laws.FnExactValidFlat", spec := "fnExactValidFlat", inPlace := ["math.Float32bits", "math.Float64bits", "math.Float64frombits"], apart := false }
def FnExactValidFlatSaid : Prop := fnExactValidFlatRow.holds Try.pinned (OpenSpec.ofChange fnExactValidFlatSpec)

/-- ITS FALSE NEIGHBOUR: 'it returns false'. Refute it at one input. -/
def fnExactValidFlatWrong : ChangeSpec := { name := "fnExactValidFlat", fn := fun _ => fun
  | [d] => { results := [.lit (.bool false)], args := [d] }
  | _ => none }
def FnExactValidFlatWrongFalsely : Prop := fnExactValidFlatRow.holds Try.pinned (OpenSpec.ofChange fnExactValidFlatWrong)

/-- 'laws.FnExactColdestRoom': WHATEVER THE INPUT: true; the input reads as it did. -/
def fnExactColdestRoomSpec : ChangeSpec := { name := "fnExactColdestRoom", fn := fun _ => fun
  | [d] => { results := [.lit (.bool true)], args := [d] }
  | _ => none }
def fnExactColdestRoomRow : OpenClaim := { program := "ytopliajfonpbcaa", sum := "fc871ca79b8684150572528b5ab2f4a1054efb2900fd8960a7273cedf28c2884", func := "loop.example/g01229/laws.FnExactColdestRoom", spec := "fnExactColdestRoom", inPlace := ["math.Float32bits", "math.Float64bits", "math.Float64frombits"], apart := false }
def FnExactColdestRoomSaid : Prop := fnExactColdestRoomRow.holds Try.pinned (OpenSpec.ofChange fnExactColdestRoomSpec)

/-- ITS FALSE NEIGHBOUR: 'it returns false'. Refute it at one input. -/
def fnExactColdestRoomWrong : ChangeSpec := { name := "fnExactColdestRoom", fn := fun _ => fun
  | [d] => { results := [.lit (.bool false)], args := [d] }
  | _ => none }
def FnExactColdestRoomWrongFalsely : Prop := fnExactColdestRoomRow.holds Try.pinned (OpenSpec.ofChange fnExactColdestRoomWrong)

/-- 'laws.FnExactLeadBetween': WHATEVER THE INPUT: true; the input reads as it did. -/
def fnExactLeadBetweenSpec : ChangeSpec := { name := "fnExactLeadBetween", fn := fun _ => fun
  | [d1, d2, d3] => { results := [.lit (.bool true)], args := [d1, d2, d3] }
  | _ => none }
def fnExactLeadBetweenRow : OpenClaim := { program := "ytopliajfonpbcaa", sum := "fc871ca79b8684150572528b5ab2f4a1054efb2900fd8960a7273cedf28c2884", func := "loop.example/g01229/laws.FnExactLeadBetween", spec := "fnExactLeadBetween", inPlace := ["math.Float32bits", "math.Float64bits", "math.Float64frombits"], apart := false }
def FnExactLeadBetweenSaid : Prop := fnExactLeadBetweenRow.holds Try.pinned (OpenSpec.ofChange fnExactLeadBetweenSpec)

/-- ITS FALSE NEIGHBOUR: 'it returns false'. Refute it at one input. -/
def fnExactLeadBetweenWrong : ChangeSpec := { name := "fnExactLeadBetween", fn := fun _ => fun
  | [d1, d2, d3] => { results := [.lit (.bool false)], args := [d1, d2, d3] }
  | _ => none }
def FnExactLeadBetweenWrongFalsely : Prop := fnExactLeadBetweenRow.holds Try.pinned (OpenSpec.ofChange fnExactLeadBetweenWrong)

/-- 'laws.FnExactLossOf': WHATEVER THE INPUT: true; the input reads as it did. -/
def fnExactLossOfSpec : ChangeSpec := { name := "fnExactLossOf", fn := fun _ => fun
  | [d1, d2] => { results := [.lit (.bool true)], args := [d1, d2] }
  | _ => none }
def fnExactLossOfRow : OpenClaim := { program := "ytopliajfonpbcaa", sum := "fc871ca79b8684150572528b5ab2f4a1054efb2900fd8960a7273cedf28c2884", func := "loop.example/g01229/laws.FnExactLossOf", spec := "fnExactLossOf", inPlace := ["math.Float32bits", "math.Float64bits", "math.Float64frombits"], apart := false }
def FnExactLossOfSaid : Prop := fnExactLossOfRow.holds Try.pinned (OpenSpec.ofChange fnExactLossOfSpec)

/-- ITS FALSE NEIGHBOUR: 'it returns false'. Refute it at one input. -/
def fnExactLossOfWrong : ChangeSpec := { name := "fnExactLossOf", fn := fun _ => fun
  | [d1, d2] => { results := [.lit (.bool false)], args := [d1, d2] }
  | _ => none }
def FnExactLossOfWrongFalsely : Prop := fnExactLossOfRow.holds Try.pinned (OpenSpec.ofChange fnExactLossOfWrong)

/-- 'laws.FnExactLongestTime': WHATEVER THE INPUT: true; the input reads as it did. -/
def fnExactLongestTimeSpec : ChangeSpec := { name := "fnExactLongestTime", fn := fun _ => fun
  | [d] => { results := [.lit (.bool true)], args := [d] }
  | _ => none }
def fnExactLongestTimeRow : OpenClaim := { program := "ytopliajfonpbcaa", sum := "fc871ca79b8684150572528b5ab2f4a1054efb2900fd8960a7273cedf28c2884", func := "loop.example/g01229/laws.FnExactLongestTime", spec := "fnExactLongestTime", inPlace := ["math.Float32bits", "math.Float64bits", "math.Float64frombits"], apart := false }
def FnExactLongestTimeSaid : Prop := fnExactLongestTimeRow.holds Try.pinned (OpenSpec.ofChange fnExactLongestTimeSpec)

/-- ITS FALSE NEIGHBOUR: 'it returns false'. Refute it at one input. -/
def fnExactLongestTimeWrong : ChangeSpec := { name := "fnExactLongestTime", fn := fun _ => fun
  | [d] => { results := [.lit (.bool false)], args := [d] }
  | _ => none }
def FnExactLongestTimeWrongFalsely : Prop := fnExactLongestTimeRow.holds Try.pinned (OpenSpec.ofChange fnExactLongestTimeWrong)

/-- 'laws.FnExactRoomFlows': WHATEVER THE INPUT: true; the input reads as it did. -/
def fnExactRoomFlowsSpec : ChangeSpec := { name := "fnExactRoomFlows", fn := fun _ => fun
  | [d1, d2, d3] => { results := [.lit (.bool true)], args := [d1, d2, d3] }
  | _ => none }
def fnExactRoomFlowsRow : OpenClaim := { program := "ytopliajfonpbcaa", sum := "fc871ca79b8684150572528b5ab2f4a1054efb2900fd8960a7273cedf28c2884", func := "loop.example/g01229/laws.FnExactRoomFlows", spec := "fnExactRoomFlows", inPlace := ["math.Float32bits", "math.Float64bits", "math.Float64frombits"], apart := false }
def FnExactRoomFlowsSaid : Prop := fnExactRoomFlowsRow.holds Try.pinned (OpenSpec.ofChange fnExactRoomFlowsSpec)

/-- ITS FALSE NEIGHBOUR: 'it returns false'. Refute it at one input. -/
def fnExactRoomFlowsWrong : ChangeSpec := { name := "fnExactRoomFlows", fn := fun _ => fun
  | [d1, d2, d3] => { results := [.lit (.bool false)], args := [d1, d2, d3] }
  | _ => none }
def FnExactRoomFlowsWrongFalsely : Prop := fnExactRoomFlowsRow.holds Try.pinned (OpenSpec.ofChange fnExactRoomFlowsWrong)

/-- 'laws.FnExactNumberText': WHATEVER THE INPUT: true; the input reads as it did. -/
def fnExactNumberTextSpec : ChangeSpec := { name := "fnExactNumberText", fn := fun _ => fun
  | [d] => { results := [.lit (.bool true)], args := [d] }
  | _ => none }
def fnExactNumberTextRow : OpenClaim := { program := "ytopliajfonpbcaa", sum := "fc871ca79b8684150572528b5ab2f4a1054efb2900fd8960a7273cedf28c2884", func := "loop.example/g01229/laws.FnExactNumberText", spec := "fnExactNumberText", inPlace := ["math.Float32bits"], apart := false }
def FnExactNumberTextSaid : Prop := fnExactNumberTextRow.holds Try.pinned (OpenSpec.ofChange fnExactNumberTextSpec)

/-- ITS FALSE NEIGHBOUR: 'it returns false'. Refute it at one input. -/
def fnExactNumberTextWrong : ChangeSpec := { name := "fnExactNumberText", fn := fun _ => fun
  | [d] => { results := [.lit (.bool false)], args := [d] }
  | _ => none }
def FnExactNumberTextWrongFalsely : Prop := fnExactNumberTextRow.holds Try.pinned (OpenSpec.ofChange fnExactNumberTextWrong)

/- THE SECOND FORM. 'bulk': how many values and letters a reading holds, each counted each time it is reached (what is shared counts as often as it is met; a slice's spare places count too). A statement '..UptoSaid' is the law's where the arguments, and the package variables that the reading takes, are together of bulk at most 1048576: NARROWER than '..Said'. Prove '..Said' where nothing that the law and all that it calls make is longer than what came in: it says more and counts as full. Else prove '..UptoSaid'. A law counts once. -/
mutual
def uptoBulk {H : Type} : DataW H → Nat
  | .lit (.string bytes) => bytes.length + 1
  | .lit _ => 1
  | .nil => 1
  | .ptr d => uptoBulk d + 1
  | .slice elems spare => uptoBulkAll elems + uptoBulkAll spare + 1
  | .agg parts => uptoBulkAll parts + 1
  | .iface _ d => uptoBulk d + 1
  | .map entries => uptoBulkEntries entries + 1
  | .held _ => 1
def uptoBulkAll {H : Type} : List (DataW H) → Nat
  | [] => 0
  | d :: r => uptoBulk d + uptoBulkAll r
def uptoBulkEntries {H : Type} : List (Lit × DataW H) → Nat
  | [] => 0
  | x :: r => uptoBulkEntry x + uptoBulkEntries r
def uptoBulkEntry {H : Type} : Lit × DataW H → Nat
  | (.string bytes, d) => bytes.length + uptoBulk d + 1
  | (_, d) => uptoBulk d + 1
 end
def uptoSmall : (H : Type) → List (DataW H) → Bool := fun _ ds => decide (uptoBulkAll ds ≤ 1048576)
def OpenSpec.upto (s : _root_.Go.ChangeSpec) : _root_.Go.OpenSpec := { _root_.Go.OpenSpec.ofChange s with cond := some uptoSmall }

/-- 'laws.FnExactSolveHeats', WHERE WHAT IT READS IS OF BULK AT MOST 1048576: true; the input reads as it did. -/
def fnExactSolveHeatsUptoRow : OpenClaim := { program := "ytopliajfonpbcaa", sum := "fc871ca79b8684150572528b5ab2f4a1054efb2900fd8960a7273cedf28c2884", func := "loop.example/g01229/laws.FnExactSolveHeats", spec := "fnExactSolveHeats", inPlace := ["math.Float64bits", "math.Float64frombits"], apart := false, narrowed := true }
def FnExactSolveHeatsUptoSaid : Prop := fnExactSolveHeatsUptoRow.holds Try.pinned (OpenSpec.upto fnExactSolveHeatsSpec)

/-- 'laws.FnExactSameFlat', WHERE WHAT IT READS IS OF BULK AT MOST 1048576: true; the input reads as it did. -/
def fnExactSameFlatUptoRow : OpenClaim := { program := "ytopliajfonpbcaa", sum := "fc871ca79b8684150572528b5ab2f4a1054efb2900fd8960a7273cedf28c2884", func := "loop.example/g01229/laws.FnExactSameFlat", spec := "fnExactSameFlat", inPlace := ["math.Float32bits"], apart := false, narrowed := true }
def FnExactSameFlatUptoSaid : Prop := fnExactSameFlatUptoRow.holds Try.pinned (OpenSpec.upto fnExactSameFlatSpec)

/-- 'laws.FnExactValidFlat', WHERE WHAT IT READS IS OF BULK AT MOST 1048576: true; the input reads as it did. -/
def fnExactValidFlatUptoRow : OpenClaim := { program := "ytopliajfonpbcaa", sum := "fc871ca79b8684150572528b5ab2f4a1054efb2900fd8960a7273cedf28c2884", func := "loop.example/g01229/laws.FnExactValidFlat", spec := "fnExactValidFlat", inPlace := ["math.Float32bits", "math.Float64bits", "math.Float64frombits"], apart := false, narrowed := true }
def FnExactValidFlatUptoSaid : Prop := fnExactValidFlatUptoRow.holds Try.pinned (OpenSpec.upto fnExactValidFlatSpec)

/-- 'laws.FnExactColdestRoom', WHERE WHAT IT READS IS OF BULK AT MOST 1048576: true; the input reads as it did. -/
def fnExactColdestRoomUptoRow : OpenClaim := { program := "ytopliajfonpbcaa", sum := "fc871ca79b8684150572528b5ab2f4a1054efb2900fd8960a7273cedf28c2884", func := "loop.example/g01229/laws.FnExactColdestRoom", spec := "fnExactColdestRoom", inPlace := ["math.Float32bits", "math.Float64bits", "math.Float64frombits"], apart := false, narrowed := true }
def FnExactColdestRoomUptoSaid : Prop := fnExactColdestRoomUptoRow.holds Try.pinned (OpenSpec.upto fnExactColdestRoomSpec)

/-- 'laws.FnExactLeadBetween', WHERE WHAT IT READS IS OF BULK AT MOST 1048576: true; the input reads as it did. -/
def fnExactLeadBetweenUptoRow : OpenClaim := { program := "ytopliajfonpbcaa", sum := "fc871ca79b8684150572528b5ab2f4a1054efb2900fd8960a7273cedf28c2884", func := "loop.example/g01229/laws.FnExactLeadBetween", spec := "fnExactLeadBetween", inPlace := ["math.Float32bits", "math.Float64bits", "math.Float64frombits"], apart := false, narrowed := true }
def FnExactLeadBetweenUptoSaid : Prop := fnExactLeadBetweenUptoRow.holds Try.pinned (OpenSpec.upto fnExactLeadBetweenSpec)

/-- 'laws.FnExactLossOf', WHERE WHAT IT READS IS OF BULK AT MOST 1048576: true; the input reads as it did. -/
def fnExactLossOfUptoRow : OpenClaim := { program := "ytopliajfonpbcaa", sum := "fc871ca79b8684150572528b5ab2f4a1054efb2900fd8960a7273cedf28c2884", func := "loop.example/g01229/laws.FnExactLossOf", spec := "fnExactLossOf", inPlace := ["math.Float32bits", "math.Float64bits", "math.Float64frombits"], apart := false, narrowed := true }
def FnExactLossOfUptoSaid : Prop := fnExactLossOfUptoRow.holds Try.pinned (OpenSpec.upto fnExactLossOfSpec)

/-- 'laws.FnExactLongestTime', WHERE WHAT IT READS IS OF BULK AT MOST 1048576: true; the input reads as it did. -/
def fnExactLongestTimeUptoRow : OpenClaim := { program := "ytopliajfonpbcaa", sum := "fc871ca79b8684150572528b5ab2f4a1054efb2900fd8960a7273cedf28c2884", func := "loop.example/g01229/laws.FnExactLongestTime", spec := "fnExactLongestTime", inPlace := ["math.Float32bits", "math.Float64bits", "math.Float64frombits"], apart := false, narrowed := true }
def FnExactLongestTimeUptoSaid : Prop := fnExactLongestTimeUptoRow.holds Try.pinned (OpenSpec.upto fnExactLongestTimeSpec)

/-- 'laws.FnExactRoomFlows', WHERE WHAT IT READS IS OF BULK AT MOST 1048576: true; the input reads as it did. -/
def fnExactRoomFlowsUptoRow : OpenClaim := { program := "ytopliajfonpbcaa", sum := "fc871ca79b8684150572528b5ab2f4a1054efb2900fd8960a7273cedf28c2884", func := "loop.example/g01229/laws.FnExactRoomFlows", spec := "fnExactRoomFlows", inPlace := ["math.Float32bits", "math.Float64bits", "math.Float64frombits"], apart := false, narrowed := true }
def FnExactRoomFlowsUptoSaid : Prop := fnExactRoomFlowsUptoRow.holds Try.pinned (OpenSpec.upto fnExactRoomFlowsSpec)

/-- 'laws.FnExactNumberText', WHERE WHAT IT READS IS OF BULK AT MOST 1048576: true; the input reads as it did. -/
def fnExactNumberTextUptoRow : OpenClaim := { program := "ytopliajfonpbcaa", sum := "fc871ca79b8684150572528b5ab2f4a1054efb2900fd8960a7273cedf28c2884", func := "loop.example/g01229/laws.FnExactNumberText", spec := "fnExactNumberText", inPlace := ["math.Float32bits"], apart := false, narrowed := true }
def FnExactNumberTextUptoSaid : Prop := fnExactNumberTextUptoRow.holds Try.pinned (OpenSpec.upto fnExactNumberTextSpec)

end Rows
end Go.Proofs.Ytopliajfonpbcaa
