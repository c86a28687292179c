/-
  No cell of these rows narrows 'for every input' (looked for: loops, veiled, ifaces, maps, wideKeys, modest, calm, conditions, laid).
  DERIVED. THE GIVEN ROWS OF THIS SEAT. 13 by the template 'for every input the law returns true; each argument reads behind the call as it read before'; 0 by the template 'total and deterministic' (their statements: YtngdmcbjponlhaaTotals.lean).
  GIVEN WITH THE SEED: the statements are not yours to turn. If you find one false, say at which input.
  Laid BY PROGRAM, IN A SANDBOX (cutbox-rows.mjs): the forced cells as the released guide's own fill.sh prints them over the translation ed83a917ca00bf9d… (all of the seat's roots in one cut). By AI agents, Wed Nov 11 2026. No macro, syntax, notation, axiom, sorry.
-/
import Derived.Test.YtngdmcbjponlhaaChecked
import GoSem.Claim
import GoSem.ClaimJoined
import GoSem.ClaimMapViews
import Derived.JoinedTies
import Derived.KernelRfl
namespace Go.Proofs.Ytngdmcbjponlhaa
/- THE CELL 'sum', in the pinned program and in every row, IS THE sha256 OF THE DUMP (.gsa) THAT YtngdmcbjponlhaaProg.lean LOADS. Nothing in Lean hashes anything: it is a label: what it is worth is what the hold of that sum in a sandbox is worth. -/
noncomputable def Try.pinned : Pinned := { name := "ytngdmcbjponlhaa", sum := "ed83a917ca00bf9d01b38a98f1578ef2608abdee403e4c98a9d22e718ba44cdd", checked := Try.checked }
namespace Rows
def none {H : Type} : Left H := { results := [], args := [] }

/-- 'laws.FnExactSameStove': WHATEVER THE INPUT: true; the input reads as it did. -/
def fnExactSameStoveSpec : ChangeSpec := { name := "fnExactSameStove", fn := fun _ => fun
  | [d1, d2] => { results := [.lit (.bool true)], args := [d1, d2] }
  | _ => none }
def fnExactSameStoveRow : OpenClaim := { program := "ytngdmcbjponlhaa", sum := "ed83a917ca00bf9d01b38a98f1578ef2608abdee403e4c98a9d22e718ba44cdd", func := "loop.example/g01229/laws.FnExactSameStove", spec := "fnExactSameStove", inPlace := ["math.Float32bits"], apart := false }
def FnExactSameStoveSaid : Prop := fnExactSameStoveRow.holds Try.pinned (OpenSpec.ofChange fnExactSameStoveSpec)

/-- ITS FALSE NEIGHBOUR: 'it returns false'. Refute it at one input. -/
def fnExactSameStoveWrong : ChangeSpec := { name := "fnExactSameStove", fn := fun _ => fun
  | [d1, d2] => { results := [.lit (.bool false)], args := [d1, d2] }
  | _ => none }
def FnExactSameStoveWrongFalsely : Prop := fnExactSameStoveRow.holds Try.pinned (OpenSpec.ofChange fnExactSameStoveWrong)

/-- 'laws.FnExactValidStove': WHATEVER THE INPUT: true; the input reads as it did. -/
def fnExactValidStoveSpec : ChangeSpec := { name := "fnExactValidStove", fn := fun _ => fun
  | [d] => { results := [.lit (.bool true)], args := [d] }
  | _ => none }
def fnExactValidStoveRow : OpenClaim := { program := "ytngdmcbjponlhaa", sum := "ed83a917ca00bf9d01b38a98f1578ef2608abdee403e4c98a9d22e718ba44cdd", func := "loop.example/g01229/laws.FnExactValidStove", spec := "fnExactValidStove", inPlace := ["math.Float32bits", "math.Float64bits", "math.Float64frombits"], apart := false }
def FnExactValidStoveSaid : Prop := fnExactValidStoveRow.holds Try.pinned (OpenSpec.ofChange fnExactValidStoveSpec)

/-- ITS FALSE NEIGHBOUR: 'it returns false'. Refute it at one input. -/
def fnExactValidStoveWrong : ChangeSpec := { name := "fnExactValidStove", fn := fun _ => fun
  | [d] => { results := [.lit (.bool false)], args := [d] }
  | _ => none }
def FnExactValidStoveWrongFalsely : Prop := fnExactValidStoveRow.holds Try.pinned (OpenSpec.ofChange fnExactValidStoveWrong)

/-- 'laws.FnExactColdStove': WHATEVER THE INPUT: true; the input reads as it did. -/
def fnExactColdStoveSpec : ChangeSpec := { name := "fnExactColdStove", fn := fun _ => fun
  | [d] => { results := [.lit (.bool true)], args := [d] }
  | _ => none }
def fnExactColdStoveRow : OpenClaim := { program := "ytngdmcbjponlhaa", sum := "ed83a917ca00bf9d01b38a98f1578ef2608abdee403e4c98a9d22e718ba44cdd", func := "loop.example/g01229/laws.FnExactColdStove", spec := "fnExactColdStove", inPlace := ["math.Float32bits", "math.Float64bits", "math.Float64frombits"], apart := false }
def FnExactColdStoveSaid : Prop := fnExactColdStoveRow.holds Try.pinned (OpenSpec.ofChange fnExactColdStoveSpec)

/-- ITS FALSE NEIGHBOUR: 'it returns false'. Refute it at one input. -/
def fnExactColdStoveWrong : ChangeSpec := { name := "fnExactColdStove", fn := fun _ => fun
  | [d] => { results := [.lit (.bool false)], args := [d] }
  | _ => none }
def FnExactColdStoveWrongFalsely : Prop := fnExactColdStoveRow.holds Try.pinned (OpenSpec.ofChange fnExactColdStoveWrong)

/-- 'laws.FnExactIsAlight': WHATEVER THE INPUT: true; the input reads as it did. -/
def fnExactIsAlightSpec : ChangeSpec := { name := "fnExactIsAlight", fn := fun _ => fun
  | [d] => { results := [.lit (.bool true)], args := [d] }
  | _ => none }
def fnExactIsAlightRow : OpenClaim := { program := "ytngdmcbjponlhaa", sum := "ed83a917ca00bf9d01b38a98f1578ef2608abdee403e4c98a9d22e718ba44cdd", func := "loop.example/g01229/laws.FnExactIsAlight", spec := "fnExactIsAlight", inPlace := ["math.Float32bits", "math.Float64bits", "math.Float64frombits"], apart := false }
def FnExactIsAlightSaid : Prop := fnExactIsAlightRow.holds Try.pinned (OpenSpec.ofChange fnExactIsAlightSpec)

/-- ITS FALSE NEIGHBOUR: 'it returns false'. Refute it at one input. -/
def fnExactIsAlightWrong : ChangeSpec := { name := "fnExactIsAlight", fn := fun _ => fun
  | [d] => { results := [.lit (.bool false)], args := [d] }
  | _ => none }
def FnExactIsAlightWrongFalsely : Prop := fnExactIsAlightRow.holds Try.pinned (OpenSpec.ofChange fnExactIsAlightWrong)

/-- 'laws.FnExactAirOf': WHATEVER THE INPUT: true; the input reads as it did. -/
def fnExactAirOfSpec : ChangeSpec := { name := "fnExactAirOf", fn := fun _ => fun
  | [d1, d2] => { results := [.lit (.bool true)], args := [d1, d2] }
  | _ => none }
def fnExactAirOfRow : OpenClaim := { program := "ytngdmcbjponlhaa", sum := "ed83a917ca00bf9d01b38a98f1578ef2608abdee403e4c98a9d22e718ba44cdd", func := "loop.example/g01229/laws.FnExactAirOf", spec := "fnExactAirOf", inPlace := ["math.Float32bits", "math.Float64bits", "math.Float64frombits"], apart := false }
def FnExactAirOfSaid : Prop := fnExactAirOfRow.holds Try.pinned (OpenSpec.ofChange fnExactAirOfSpec)

/-- ITS FALSE NEIGHBOUR: 'it returns false'. Refute it at one input. -/
def fnExactAirOfWrong : ChangeSpec := { name := "fnExactAirOf", fn := fun _ => fun
  | [d1, d2] => { results := [.lit (.bool false)], args := [d1, d2] }
  | _ => none }
def FnExactAirOfWrongFalsely : Prop := fnExactAirOfRow.holds Try.pinned (OpenSpec.ofChange fnExactAirOfWrong)

/-- 'laws.FnExactTakeLog': WHATEVER THE INPUT: true; the input reads as it did. -/
def fnExactTakeLogSpec : ChangeSpec := { name := "fnExactTakeLog", fn := fun _ => fun
  | [d1, d2] => { results := [.lit (.bool true)], args := [d1, d2] }
  | _ => none }
def fnExactTakeLogRow : OpenClaim := { program := "ytngdmcbjponlhaa", sum := "ed83a917ca00bf9d01b38a98f1578ef2608abdee403e4c98a9d22e718ba44cdd", func := "loop.example/g01229/laws.FnExactTakeLog", spec := "fnExactTakeLog", inPlace := ["math.Float32bits", "math.Float64bits", "math.Float64frombits"], apart := false }
def FnExactTakeLogSaid : Prop := fnExactTakeLogRow.holds Try.pinned (OpenSpec.ofChange fnExactTakeLogSpec)

/-- ITS FALSE NEIGHBOUR: 'it returns false'. Refute it at one input. -/
def fnExactTakeLogWrong : ChangeSpec := { name := "fnExactTakeLog", fn := fun _ => fun
  | [d1, d2] => { results := [.lit (.bool false)], args := [d1, d2] }
  | _ => none }
def FnExactTakeLogWrongFalsely : Prop := fnExactTakeLogRow.holds Try.pinned (OpenSpec.ofChange fnExactTakeLogWrong)

/-- 'laws.FnExactPutLog': WHATEVER THE INPUT: true; the input reads as it did. -/
def fnExactPutLogSpec : ChangeSpec := { name := "fnExactPutLog", fn := fun _ => fun
  | [d1, d2] => { results := [.lit (.bool true)], args := [d1, d2] }
  | _ => none }
def fnExactPutLogRow : OpenClaim := { program := "ytngdmcbjponlhaa", sum := "ed83a917ca00bf9d01b38a98f1578ef2608abdee403e4c98a9d22e718ba44cdd", func := "loop.example/g01229/laws.FnExactPutLog", spec := "fnExactPutLog", inPlace := ["math.Float32bits", "math.Float64bits", "math.Float64frombits"], apart := false }
def FnExactPutLogSaid : Prop := fnExactPutLogRow.holds Try.pinned (OpenSpec.ofChange fnExactPutLogSpec)

/-- ITS FALSE NEIGHBOUR: 'it returns false'. Refute it at one input. -/
def fnExactPutLogWrong : ChangeSpec := { name := "fnExactPutLog", fn := fun _ => fun
  | [d1, d2] => { results := [.lit (.bool false)], args := [d1, d2] }
  | _ => none }
def FnExactPutLogWrongFalsely : Prop := fnExactPutLogRow.holds Try.pinned (OpenSpec.ofChange fnExactPutLogWrong)

/-- 'laws.FnExactSetDamper': WHATEVER THE INPUT: true; the input reads as it did. -/
def fnExactSetDamperSpec : ChangeSpec := { name := "fnExactSetDamper", fn := fun _ => fun
  | [d1, d2] => { results := [.lit (.bool true)], args := [d1, d2] }
  | _ => none }
def fnExactSetDamperRow : OpenClaim := { program := "ytngdmcbjponlhaa", sum := "ed83a917ca00bf9d01b38a98f1578ef2608abdee403e4c98a9d22e718ba44cdd", func := "loop.example/g01229/laws.FnExactSetDamper", spec := "fnExactSetDamper", inPlace := ["math.Float32bits", "math.Float64bits", "math.Float64frombits"], apart := false }
def FnExactSetDamperSaid : Prop := fnExactSetDamperRow.holds Try.pinned (OpenSpec.ofChange fnExactSetDamperSpec)

/-- ITS FALSE NEIGHBOUR: 'it returns false'. Refute it at one input. -/
def fnExactSetDamperWrong : ChangeSpec := { name := "fnExactSetDamper", fn := fun _ => fun
  | [d1, d2] => { results := [.lit (.bool false)], args := [d1, d2] }
  | _ => none }
def FnExactSetDamperWrongFalsely : Prop := fnExactSetDamperRow.holds Try.pinned (OpenSpec.ofChange fnExactSetDamperWrong)

/-- 'laws.FnExactRakeOut': WHATEVER THE INPUT: true; the input reads as it did. -/
def fnExactRakeOutSpec : ChangeSpec := { name := "fnExactRakeOut", fn := fun _ => fun
  | [d] => { results := [.lit (.bool true)], args := [d] }
  | _ => none }
def fnExactRakeOutRow : OpenClaim := { program := "ytngdmcbjponlhaa", sum := "ed83a917ca00bf9d01b38a98f1578ef2608abdee403e4c98a9d22e718ba44cdd", func := "loop.example/g01229/laws.FnExactRakeOut", spec := "fnExactRakeOut", inPlace := ["math.Float32bits", "math.Float64bits", "math.Float64frombits"], apart := false }
def FnExactRakeOutSaid : Prop := fnExactRakeOutRow.holds Try.pinned (OpenSpec.ofChange fnExactRakeOutSpec)

/-- ITS FALSE NEIGHBOUR: 'it returns false'. Refute it at one input. -/
def fnExactRakeOutWrong : ChangeSpec := { name := "fnExactRakeOut", fn := fun _ => fun
  | [d] => { results := [.lit (.bool false)], args := [d] }
  | _ => none }
def FnExactRakeOutWrongFalsely : Prop := fnExactRakeOutRow.holds Try.pinned (OpenSpec.ofChange fnExactRakeOutWrong)

/-- 'laws.FnExactKindleStove': WHATEVER THE INPUT: true; the input reads as it did. -/
def fnExactKindleStoveSpec : ChangeSpec := { name := "fnExactKindleStove", fn := fun _ => fun
  | [d] => { results := [.lit (.bool true)], args := [d] }
  | _ => none }
def fnExactKindleStoveRow : OpenClaim := { program := "ytngdmcbjponlhaa", sum := "ed83a917ca00bf9d01b38a98f1578ef2608abdee403e4c98a9d22e718ba44cdd", func := "loop.example/g01229/laws.FnExactKindleStove", spec := "fnExactKindleStove", inPlace := ["math.Float32bits", "math.Float64bits", "math.Float64frombits"], apart := false }
def FnExactKindleStoveSaid : Prop := fnExactKindleStoveRow.holds Try.pinned (OpenSpec.ofChange fnExactKindleStoveSpec)

/-- ITS FALSE NEIGHBOUR: 'it returns false'. Refute it at one input. -/
def fnExactKindleStoveWrong : ChangeSpec := { name := "fnExactKindleStove", fn := fun _ => fun
  | [d] => { results := [.lit (.bool false)], args := [d] }
  | _ => none }
def FnExactKindleStoveWrongFalsely : Prop := fnExactKindleStoveRow.holds Try.pinned (OpenSpec.ofChange fnExactKindleStoveWrong)

/-- 'laws.FnExactFireStep': WHATEVER THE INPUT: true; the input reads as it did. -/
def fnExactFireStepSpec : ChangeSpec := { name := "fnExactFireStep", fn := fun _ => fun
  | [d1, d2, d3, d4] => { results := [.lit (.bool true)], args := [d1, d2, d3, d4] }
  | _ => none }
def fnExactFireStepRow : OpenClaim := { program := "ytngdmcbjponlhaa", sum := "ed83a917ca00bf9d01b38a98f1578ef2608abdee403e4c98a9d22e718ba44cdd", func := "loop.example/g01229/laws.FnExactFireStep", spec := "fnExactFireStep", inPlace := ["math.Float32bits", "math.archFloor", "math.Float64bits", "math.Float64frombits", "math.archTrunc"], apart := false }
def FnExactFireStepSaid : Prop := fnExactFireStepRow.holds Try.pinned (OpenSpec.ofChange fnExactFireStepSpec)

/-- ITS FALSE NEIGHBOUR: 'it returns false'. Refute it at one input. -/
def fnExactFireStepWrong : ChangeSpec := { name := "fnExactFireStep", fn := fun _ => fun
  | [d1, d2, d3, d4] => { results := [.lit (.bool false)], args := [d1, d2, d3, d4] }
  | _ => none }
def FnExactFireStepWrongFalsely : Prop := fnExactFireStepRow.holds Try.pinned (OpenSpec.ofChange fnExactFireStepWrong)

/-- 'laws.FnExactFireSteps': WHATEVER THE INPUT: true; the input reads as it did. -/
def fnExactFireStepsSpec : ChangeSpec := { name := "fnExactFireSteps", fn := fun _ => fun
  | [d1, d2, d3, d4, d5] => { results := [.lit (.bool true)], args := [d1, d2, d3, d4, d5] }
  | _ => none }
def fnExactFireStepsRow : OpenClaim := { program := "ytngdmcbjponlhaa", sum := "ed83a917ca00bf9d01b38a98f1578ef2608abdee403e4c98a9d22e718ba44cdd", func := "loop.example/g01229/laws.FnExactFireSteps", spec := "fnExactFireSteps", inPlace := ["math.Float32bits", "math.archFloor", "math.Float64bits", "math.Float64frombits", "math.archTrunc"], apart := false }
def FnExactFireStepsSaid : Prop := fnExactFireStepsRow.holds Try.pinned (OpenSpec.ofChange fnExactFireStepsSpec)

/-- ITS FALSE NEIGHBOUR: 'it returns false'. Refute it at one input. -/
def fnExactFireStepsWrong : ChangeSpec := { name := "fnExactFireSteps", fn := fun _ => fun
  | [d1, d2, d3, d4, d5] => { results := [.lit (.bool false)], args := [d1, d2, d3, d4, d5] }
  | _ => none }
def FnExactFireStepsWrongFalsely : Prop := fnExactFireStepsRow.holds Try.pinned (OpenSpec.ofChange fnExactFireStepsWrong)

/-- 'laws.FnExactStepsToCold': WHATEVER THE INPUT: true; the input reads as it did. -/
def fnExactStepsToColdSpec : ChangeSpec := { name := "fnExactStepsToCold", fn := fun _ => fun
  | [d1, d2, d3, d4] => { results := [.lit (.bool true)], args := [d1, d2, d3, d4] }
  | _ => none }
def fnExactStepsToColdRow : OpenClaim := { program := "ytngdmcbjponlhaa", sum := "ed83a917ca00bf9d01b38a98f1578ef2608abdee403e4c98a9d22e718ba44cdd", func := "loop.example/g01229/laws.FnExactStepsToCold", spec := "fnExactStepsToCold", inPlace := ["math.Float32bits", "math.archFloor", "math.Float64bits", "math.Float64frombits", "math.archTrunc"], apart := false }
def FnExactStepsToColdSaid : Prop := fnExactStepsToColdRow.holds Try.pinned (OpenSpec.ofChange fnExactStepsToColdSpec)

/-- ITS FALSE NEIGHBOUR: 'it returns false'. Refute it at one input. -/
def fnExactStepsToColdWrong : ChangeSpec := { name := "fnExactStepsToCold", fn := fun _ => fun
  | [d1, d2, d3, d4] => { results := [.lit (.bool false)], args := [d1, d2, d3, d4] }
  | _ => none }
def FnExactStepsToColdWrongFalsely : Prop := fnExactStepsToColdRow.holds Try.pinned (OpenSpec.ofChange fnExactStepsToColdWrong)

/- THE SECOND FORM. 'bulk': how many values and letters a reading holds, each counted each time it is reached (what is shared counts as often as it is met; a slice's spare places count too). A statement '..UptoSaid' is the law's where the arguments, and the package variables that the reading takes, are together of bulk at most 1048576: NARROWER than '..Said'. Prove '..Said' where nothing that the law and all that it calls make is longer than what came in: it says more and counts as full. Else prove '..UptoSaid'. A law counts once. -/
mutual
def uptoBulk {H : Type} : DataW H → Nat
  | .lit (.string bytes) => bytes.length + 1
  | .lit _ => 1
  | .nil => 1
  | .ptr d => uptoBulk d + 1
  | .slice elems spare => uptoBulkAll elems + uptoBulkAll spare + 1
  | .agg parts => uptoBulkAll parts + 1
  | .iface _ d => uptoBulk d + 1
  | .map entries => uptoBulkEntries entries + 1
  | .held _ => 1
def uptoBulkAll {H : Type} : List (DataW H) → Nat
  | [] => 0
  | d :: r => uptoBulk d + uptoBulkAll r
def uptoBulkEntries {H : Type} : List (Lit × DataW H) → Nat
  | [] => 0
  | x :: r => uptoBulkEntry x + uptoBulkEntries r
def uptoBulkEntry {H : Type} : Lit × DataW H → Nat
  | (.string bytes, d) => bytes.length + uptoBulk d + 1
  | (_, d) => uptoBulk d + 1
 end
def uptoSmall : (H : Type) → List (DataW H) → Bool := fun _ ds => decide (uptoBulkAll ds ≤ 1048576)
def OpenSpec.upto (s : _root_.Go.ChangeSpec) : _root_.Go.OpenSpec := { _root_.Go.OpenSpec.ofChange s with cond := some uptoSmall }

/-- 'laws.FnExactSameStove', WHERE WHAT IT READS IS OF BULK AT MOST 1048576: true; the input reads as it did. -/
def fnExactSameStoveUptoRow : OpenClaim := { program := "ytngdmcbjponlhaa", sum := "ed83a917ca00bf9d01b38a98f1578ef2608abdee403e4c98a9d22e718ba44cdd", func := "loop.example/g01229/laws.FnExactSameStove", spec := "fnExactSameStove", inPlace := ["math.Float32bits"], apart := false, narrowed := true }
def FnExactSameStoveUptoSaid : Prop := fnExactSameStoveUptoRow.holds Try.pinned (OpenSpec.upto fnExactSameStoveSpec)

/-- 'laws.FnExactValidStove', WHERE WHAT IT READS IS OF BULK AT MOST 1048576: true; the input reads as it did. -/
def fnExactValidStoveUptoRow : OpenClaim := { program := "ytngdmcbjponlhaa", sum := "ed83a917ca00bf9d01b38a98f1578ef2608abdee403e4c98a9d22e718ba44cdd", func := "loop.example/g01229/laws.FnExactValidStove", spec := "fnExactValidStove", inPlace := ["math.Float32bits", "math.Float64bits", "math.Float64frombits"], apart := false, narrowed := true }
def FnExactValidStoveUptoSaid : Prop := fnExactValidStoveUptoRow.holds Try.pinned (OpenSpec.upto fnExactValidStoveSpec)

/-- 'laws.FnExactColdStove', WHERE WHAT IT READS IS OF BULK AT MOST 1048576: true; the input reads as it did. -/
def fnExactColdStoveUptoRow : OpenClaim := { program := "ytngdmcbjponlhaa", sum := "ed83a917ca00bf9d01b38a98f1578ef2608abdee403e4c98a9d22e718ba44cdd", func := "loop.example/g01229/laws.FnExactColdStove", spec := "fnExactColdStove", inPlace := ["math.Float32bits", "math.Float64bits", "math.Float64frombits"], apart := false, narrowed := true }
def FnExactColdStoveUptoSaid : Prop := fnExactColdStoveUptoRow.holds Try.pinned (OpenSpec.upto fnExactColdStoveSpec)

/-- 'laws.FnExactIsAlight', WHERE WHAT IT READS IS OF BULK AT MOST 1048576: true; the input reads as it did. -/
def fnExactIsAlightUptoRow : OpenClaim := { program := "ytngdmcbjponlhaa", sum := "ed83a917ca00bf9d01b38a98f1578ef2608abdee403e4c98a9d22e718ba44cdd", func := "loop.example/g01229/laws.FnExactIsAlight", spec := "fnExactIsAlight", inPlace := ["math.Float32bits", "math.Float64bits", "math.Float64frombits"], apart := false, narrowed := true }
def FnExactIsAlightUptoSaid : Prop := fnExactIsAlightUptoRow.holds Try.pinned (OpenSpec.upto fnExactIsAlightSpec)

/-- 'laws.FnExactAirOf', WHERE WHAT IT READS IS OF BULK AT MOST 1048576: true; the input reads as it did. -/
def fnExactAirOfUptoRow : OpenClaim := { program := "ytngdmcbjponlhaa", sum := "ed83a917ca00bf9d01b38a98f1578ef2608abdee403e4c98a9d22e718ba44cdd", func := "loop.example/g01229/laws.FnExactAirOf", spec := "fnExactAirOf", inPlace := ["math.Float32bits", "math.Float64bits", "math.Float64frombits"], apart := false, narrowed := true }
def FnExactAirOfUptoSaid : Prop := fnExactAirOfUptoRow.holds Try.pinned (OpenSpec.upto fnExactAirOfSpec)

/-- 'laws.FnExactTakeLog', WHERE WHAT IT READS IS OF BULK AT MOST 1048576: true; the input reads as it did. -/
def fnExactTakeLogUptoRow : OpenClaim := { program := "ytngdmcbjponlhaa", sum := "ed83a917ca00bf9d01b38a98f1578ef2608abdee403e4c98a9d22e718ba44cdd", func := "loop.example/g01229/laws.FnExactTakeLog", spec := "fnExactTakeLog", inPlace := ["math.Float32bits", "math.Float64bits", "math.Float64frombits"], apart := false, narrowed := true }
def FnExactTakeLogUptoSaid : Prop := fnExactTakeLogUptoRow.holds Try.pinned (OpenSpec.upto fnExactTakeLogSpec)

/-- 'laws.FnExactPutLog', WHERE WHAT IT READS IS OF BULK AT MOST 1048576: true; the input reads as it did. -/
def fnExactPutLogUptoRow : OpenClaim := { program := "ytngdmcbjponlhaa", sum := "ed83a917ca00bf9d01b38a98f1578ef2608abdee403e4c98a9d22e718ba44cdd", func := "loop.example/g01229/laws.FnExactPutLog", spec := "fnExactPutLog", inPlace := ["math.Float32bits", "math.Float64bits", "math.Float64frombits"], apart := false, narrowed := true }
def FnExactPutLogUptoSaid : Prop := fnExactPutLogUptoRow.holds Try.pinned (OpenSpec.upto fnExactPutLogSpec)

/-- 'laws.FnExactSetDamper', WHERE WHAT IT READS IS OF BULK AT MOST 1048576: true; the input reads as it did. -/
def fnExactSetDamperUptoRow : OpenClaim := { program := "ytngdmcbjponlhaa", sum := "ed83a917ca00bf9d01b38a98f1578ef2608abdee403e4c98a9d22e718ba44cdd", func := "loop.example/g01229/laws.FnExactSetDamper", spec := "fnExactSetDamper", inPlace := ["math.Float32bits", "math.Float64bits", "math.Float64frombits"], apart := false, narrowed := true }
def FnExactSetDamperUptoSaid : Prop := fnExactSetDamperUptoRow.holds Try.pinned (OpenSpec.upto fnExactSetDamperSpec)

/-- 'laws.FnExactRakeOut', WHERE WHAT IT READS IS OF BULK AT MOST 1048576: true; the input reads as it did. -/
def fnExactRakeOutUptoRow : OpenClaim := { program := "ytngdmcbjponlhaa", sum := "ed83a917ca00bf9d01b38a98f1578ef2608abdee403e4c98a9d22e718ba44cdd", func := "loop.example/g01229/laws.FnExactRakeOut", spec := "fnExactRakeOut", inPlace := ["math.Float32bits", "math.Float64bits", "math.Float64frombits"], apart := false, narrowed := true }
def FnExactRakeOutUptoSaid : Prop := fnExactRakeOutUptoRow.holds Try.pinned (OpenSpec.upto fnExactRakeOutSpec)

/-- 'laws.FnExactKindleStove', WHERE WHAT IT READS IS OF BULK AT MOST 1048576: true; the input reads as it did. -/
def fnExactKindleStoveUptoRow : OpenClaim := { program := "ytngdmcbjponlhaa", sum := "ed83a917ca00bf9d01b38a98f1578ef2608abdee403e4c98a9d22e718ba44cdd", func := "loop.example/g01229/laws.FnExactKindleStove", spec := "fnExactKindleStove", inPlace := ["math.Float32bits", "math.Float64bits", "math.Float64frombits"], apart := false, narrowed := true }
def FnExactKindleStoveUptoSaid : Prop := fnExactKindleStoveUptoRow.holds Try.pinned (OpenSpec.upto fnExactKindleStoveSpec)

/-- 'laws.FnExactFireStep', WHERE WHAT IT READS IS OF BULK AT MOST 1048576: true; the input reads as it did. -/
def fnExactFireStepUptoRow : OpenClaim := { program := "ytngdmcbjponlhaa", sum := "ed83a917ca00bf9d01b38a98f1578ef2608abdee403e4c98a9d22e718ba44cdd", func := "loop.example/g01229/laws.FnExactFireStep", spec := "fnExactFireStep", inPlace := ["math.Float32bits", "math.archFloor", "math.Float64bits", "math.Float64frombits", "math.archTrunc"], apart := false, narrowed := true }
def FnExactFireStepUptoSaid : Prop := fnExactFireStepUptoRow.holds Try.pinned (OpenSpec.upto fnExactFireStepSpec)

/-- 'laws.FnExactFireSteps', WHERE WHAT IT READS IS OF BULK AT MOST 1048576: true; the input reads as it did. -/
def fnExactFireStepsUptoRow : OpenClaim := { program := "ytngdmcbjponlhaa", sum := "ed83a917ca00bf9d01b38a98f1578ef2608abdee403e4c98a9d22e718ba44cdd", func := "loop.example/g01229/laws.FnExactFireSteps", spec := "fnExactFireSteps", inPlace := ["math.Float32bits", "math.archFloor", "math.Float64bits", "math.Float64frombits", "math.archTrunc"], apart := false, narrowed := true }
def FnExactFireStepsUptoSaid : Prop := fnExactFireStepsUptoRow.holds Try.pinned (OpenSpec.upto fnExactFireStepsSpec)

/-- 'laws.FnExactStepsToCold', WHERE WHAT IT READS IS OF BULK AT MOST 1048576: true; the input reads as it did. -/
def fnExactStepsToColdUptoRow : OpenClaim := { program := "ytngdmcbjponlhaa", sum := "ed83a917ca00bf9d01b38a98f1578ef2608abdee403e4c98a9d22e718ba44cdd", func := "loop.example/g01229/laws.FnExactStepsToCold", spec := "fnExactStepsToCold", inPlace := ["math.Float32bits", "math.archFloor", "math.Float64bits", "math.Float64frombits", "math.archTrunc"], apart := false, narrowed := true }
def FnExactStepsToColdUptoSaid : Prop := fnExactStepsToColdUptoRow.holds Try.pinned (OpenSpec.upto fnExactStepsToColdSpec)

end Rows
end Go.Proofs.Ytngdmcbjponlhaa
