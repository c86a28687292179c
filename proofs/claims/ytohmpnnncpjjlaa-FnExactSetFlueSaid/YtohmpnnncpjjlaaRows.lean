/-
  No cell of these rows narrows 'for every input' (looked for: loops, veiled, ifaces, maps, wideKeys, modest, calm, conditions, laid).
  DERIVED. THE GIVEN ROWS OF THIS SEAT. 11 by the template 'for every input the law returns true; each argument reads behind the call as it read before'; 0 by the template 'total and deterministic' (their statements: YtohmpnnncpjjlaaTotals.lean).
  GIVEN WITH THE SEED: the statements are not yours to turn. If you find one false, say at which input.
  Laid BY PROGRAM, IN A SANDBOX (cutbox-rows.mjs): the forced cells as the released guide's own fill.sh prints them over the translation cee29c28a5f4735a… (all of the seat's roots in one cut). By AI agents, Wed Nov 11 2026. No macro, syntax, notation, axiom, sorry.
-/
import Derived.Test.YtohmpnnncpjjlaaChecked
import GoSem.Claim
import GoSem.ClaimJoined
import GoSem.ClaimMapViews
import Derived.JoinedTies
import Derived.KernelRfl
namespace Go.Proofs.Ytohmpnnncpjjlaa
/- THE CELL 'sum', in the pinned program and in every row, IS THE sha256 OF THE DUMP (.gsa) THAT YtohmpnnncpjjlaaProg.lean LOADS. Nothing in Lean hashes anything: it is a label: what it is worth is what the hold of that sum in a sandbox is worth. -/
noncomputable def Try.pinned : Pinned := { name := "ytohmpnnncpjjlaa", sum := "cee29c28a5f4735a5a96fe5cd8c0c9e7baf165fb45aa1d1b0ae92a781e6eb85e", checked := Try.checked }
namespace Rows
def none {H : Type} : Left H := { results := [], args := [] }

/-- 'laws.FnExactIsAmount': WHATEVER THE INPUT: true; the input reads as it did. -/
def fnExactIsAmountSpec : ChangeSpec := { name := "fnExactIsAmount", fn := fun _ => fun
  | [d] => { results := [.lit (.bool true)], args := [d] }
  | _ => none }
def fnExactIsAmountRow : OpenClaim := { program := "ytohmpnnncpjjlaa", sum := "cee29c28a5f4735a5a96fe5cd8c0c9e7baf165fb45aa1d1b0ae92a781e6eb85e", func := "loop.example/g01229/laws.FnExactIsAmount", spec := "fnExactIsAmount", inPlace := ["math.Float32bits", "math.Float64bits", "math.Float64frombits"], apart := false }
def FnExactIsAmountSaid : Prop := fnExactIsAmountRow.holds Try.pinned (OpenSpec.ofChange fnExactIsAmountSpec)

/-- ITS FALSE NEIGHBOUR: 'it returns false'. Refute it at one input. -/
def fnExactIsAmountWrong : ChangeSpec := { name := "fnExactIsAmount", fn := fun _ => fun
  | [d] => { results := [.lit (.bool false)], args := [d] }
  | _ => none }
def FnExactIsAmountWrongFalsely : Prop := fnExactIsAmountRow.holds Try.pinned (OpenSpec.ofChange fnExactIsAmountWrong)

/-- 'laws.FnExactNextState': WHATEVER THE INPUT: true; the input reads as it did. -/
def fnExactNextStateSpec : ChangeSpec := { name := "fnExactNextState", fn := fun _ => fun
  | [d1, d2, d3] => { results := [.lit (.bool true)], args := [d1, d2, d3] }
  | _ => none }
def fnExactNextStateRow : OpenClaim := { program := "ytohmpnnncpjjlaa", sum := "cee29c28a5f4735a5a96fe5cd8c0c9e7baf165fb45aa1d1b0ae92a781e6eb85e", func := "loop.example/g01229/laws.FnExactNextState", spec := "fnExactNextState", apart := false }
def FnExactNextStateSaid : Prop := fnExactNextStateRow.holds Try.pinned (OpenSpec.ofChange fnExactNextStateSpec)

/-- ITS FALSE NEIGHBOUR: 'it returns false'. Refute it at one input. -/
def fnExactNextStateWrong : ChangeSpec := { name := "fnExactNextState", fn := fun _ => fun
  | [d1, d2, d3] => { results := [.lit (.bool false)], args := [d1, d2, d3] }
  | _ => none }
def FnExactNextStateWrongFalsely : Prop := fnExactNextStateRow.holds Try.pinned (OpenSpec.ofChange fnExactNextStateWrong)

/-- 'laws.FnExactIsShare': WHATEVER THE INPUT: true; the input reads as it did. -/
def fnExactIsShareSpec : ChangeSpec := { name := "fnExactIsShare", fn := fun _ => fun
  | [d] => { results := [.lit (.bool true)], args := [d] }
  | _ => none }
def fnExactIsShareRow : OpenClaim := { program := "ytohmpnnncpjjlaa", sum := "cee29c28a5f4735a5a96fe5cd8c0c9e7baf165fb45aa1d1b0ae92a781e6eb85e", func := "loop.example/g01229/laws.FnExactIsShare", spec := "fnExactIsShare", inPlace := ["math.Float32bits", "math.Float64bits", "math.Float64frombits"], apart := false }
def FnExactIsShareSaid : Prop := fnExactIsShareRow.holds Try.pinned (OpenSpec.ofChange fnExactIsShareSpec)

/-- ITS FALSE NEIGHBOUR: 'it returns false'. Refute it at one input. -/
def fnExactIsShareWrong : ChangeSpec := { name := "fnExactIsShare", fn := fun _ => fun
  | [d] => { results := [.lit (.bool false)], args := [d] }
  | _ => none }
def FnExactIsShareWrongFalsely : Prop := fnExactIsShareRow.holds Try.pinned (OpenSpec.ofChange fnExactIsShareWrong)

/-- 'laws.FnExactReadNumber': WHATEVER THE INPUT: true; the input reads as it did. -/
def fnExactReadNumberSpec : ChangeSpec := { name := "fnExactReadNumber", fn := fun _ => fun
  | [d] => { results := [.lit (.bool true)], args := [d] }
  | _ => none }
def fnExactReadNumberRow : OpenClaim := { program := "ytohmpnnncpjjlaa", sum := "cee29c28a5f4735a5a96fe5cd8c0c9e7baf165fb45aa1d1b0ae92a781e6eb85e", func := "loop.example/g01229/laws.FnExactReadNumber", spec := "fnExactReadNumber", inPlace := ["math.Float32frombits", "math.Float32bits", "internal/bytealg.IndexByteString"], apart := false }
def FnExactReadNumberSaid : Prop := fnExactReadNumberRow.holds Try.pinned (OpenSpec.ofChange fnExactReadNumberSpec)

/-- ITS FALSE NEIGHBOUR: 'it returns false'. Refute it at one input. -/
def fnExactReadNumberWrong : ChangeSpec := { name := "fnExactReadNumber", fn := fun _ => fun
  | [d] => { results := [.lit (.bool false)], args := [d] }
  | _ => none }
def FnExactReadNumberWrongFalsely : Prop := fnExactReadNumberRow.holds Try.pinned (OpenSpec.ofChange fnExactReadNumberWrong)

/-- 'laws.FnExactDraftOf': WHATEVER THE INPUT: true; the input reads as it did. -/
def fnExactDraftOfSpec : ChangeSpec := { name := "fnExactDraftOf", fn := fun _ => fun
  | [d1, d2] => { results := [.lit (.bool true)], args := [d1, d2] }
  | _ => none }
def fnExactDraftOfRow : OpenClaim := { program := "ytohmpnnncpjjlaa", sum := "cee29c28a5f4735a5a96fe5cd8c0c9e7baf165fb45aa1d1b0ae92a781e6eb85e", func := "loop.example/g01229/laws.FnExactDraftOf", spec := "fnExactDraftOf", inPlace := ["math.Float32bits", "math.Float64bits", "math.Float64frombits"], apart := false }
def FnExactDraftOfSaid : Prop := fnExactDraftOfRow.holds Try.pinned (OpenSpec.ofChange fnExactDraftOfSpec)

/-- ITS FALSE NEIGHBOUR: 'it returns false'. Refute it at one input. -/
def fnExactDraftOfWrong : ChangeSpec := { name := "fnExactDraftOf", fn := fun _ => fun
  | [d1, d2] => { results := [.lit (.bool false)], args := [d1, d2] }
  | _ => none }
def FnExactDraftOfWrongFalsely : Prop := fnExactDraftOfRow.holds Try.pinned (OpenSpec.ofChange fnExactDraftOfWrong)

/-- 'laws.FnExactResistOf': WHATEVER THE INPUT: true; the input reads as it did. -/
def fnExactResistOfSpec : ChangeSpec := { name := "fnExactResistOf", fn := fun _ => fun
  | [d] => { results := [.lit (.bool true)], args := [d] }
  | _ => none }
def fnExactResistOfRow : OpenClaim := { program := "ytohmpnnncpjjlaa", sum := "cee29c28a5f4735a5a96fe5cd8c0c9e7baf165fb45aa1d1b0ae92a781e6eb85e", func := "loop.example/g01229/laws.FnExactResistOf", spec := "fnExactResistOf", inPlace := ["math.Float32bits", "math.Float64bits", "math.Float64frombits"], apart := false }
def FnExactResistOfSaid : Prop := fnExactResistOfRow.holds Try.pinned (OpenSpec.ofChange fnExactResistOfSpec)

/-- ITS FALSE NEIGHBOUR: 'it returns false'. Refute it at one input. -/
def fnExactResistOfWrong : ChangeSpec := { name := "fnExactResistOf", fn := fun _ => fun
  | [d] => { results := [.lit (.bool false)], args := [d] }
  | _ => none }
def FnExactResistOfWrongFalsely : Prop := fnExactResistOfRow.holds Try.pinned (OpenSpec.ofChange fnExactResistOfWrong)

/-- 'laws.FnExactSameChimney': WHATEVER THE INPUT: true; the input reads as it did. -/
def fnExactSameChimneySpec : ChangeSpec := { name := "fnExactSameChimney", fn := fun _ => fun
  | [d1, d2] => { results := [.lit (.bool true)], args := [d1, d2] }
  | _ => none }
def fnExactSameChimneyRow : OpenClaim := { program := "ytohmpnnncpjjlaa", sum := "cee29c28a5f4735a5a96fe5cd8c0c9e7baf165fb45aa1d1b0ae92a781e6eb85e", func := "loop.example/g01229/laws.FnExactSameChimney", spec := "fnExactSameChimney", inPlace := ["math.Float32bits"], apart := false }
def FnExactSameChimneySaid : Prop := fnExactSameChimneyRow.holds Try.pinned (OpenSpec.ofChange fnExactSameChimneySpec)

/-- ITS FALSE NEIGHBOUR: 'it returns false'. Refute it at one input. -/
def fnExactSameChimneyWrong : ChangeSpec := { name := "fnExactSameChimney", fn := fun _ => fun
  | [d1, d2] => { results := [.lit (.bool false)], args := [d1, d2] }
  | _ => none }
def FnExactSameChimneyWrongFalsely : Prop := fnExactSameChimneyRow.holds Try.pinned (OpenSpec.ofChange fnExactSameChimneyWrong)

/-- 'laws.FnExactFlowThrough': WHATEVER THE INPUT: true; the input reads as it did. -/
def fnExactFlowThroughSpec : ChangeSpec := { name := "fnExactFlowThrough", fn := fun _ => fun
  | [d1, d2, d3] => { results := [.lit (.bool true)], args := [d1, d2, d3] }
  | _ => none }
def fnExactFlowThroughRow : OpenClaim := { program := "ytohmpnnncpjjlaa", sum := "cee29c28a5f4735a5a96fe5cd8c0c9e7baf165fb45aa1d1b0ae92a781e6eb85e", func := "loop.example/g01229/laws.FnExactFlowThrough", spec := "fnExactFlowThrough", inPlace := ["math.Float32bits", "math.sqrt", "math.Float64bits", "math.Float64frombits"], apart := false }
def FnExactFlowThroughSaid : Prop := fnExactFlowThroughRow.holds Try.pinned (OpenSpec.ofChange fnExactFlowThroughSpec)

/-- ITS FALSE NEIGHBOUR: 'it returns false'. Refute it at one input. -/
def fnExactFlowThroughWrong : ChangeSpec := { name := "fnExactFlowThrough", fn := fun _ => fun
  | [d1, d2, d3] => { results := [.lit (.bool false)], args := [d1, d2, d3] }
  | _ => none }
def FnExactFlowThroughWrongFalsely : Prop := fnExactFlowThroughRow.holds Try.pinned (OpenSpec.ofChange fnExactFlowThroughWrong)

/-- 'laws.FnExactValidChimney': WHATEVER THE INPUT: true; the input reads as it did. -/
def fnExactValidChimneySpec : ChangeSpec := { name := "fnExactValidChimney", fn := fun _ => fun
  | [d] => { results := [.lit (.bool true)], args := [d] }
  | _ => none }
def fnExactValidChimneyRow : OpenClaim := { program := "ytohmpnnncpjjlaa", sum := "cee29c28a5f4735a5a96fe5cd8c0c9e7baf165fb45aa1d1b0ae92a781e6eb85e", func := "loop.example/g01229/laws.FnExactValidChimney", spec := "fnExactValidChimney", inPlace := ["math.Float32bits", "math.Float64bits", "math.Float64frombits"], apart := false }
def FnExactValidChimneySaid : Prop := fnExactValidChimneyRow.holds Try.pinned (OpenSpec.ofChange fnExactValidChimneySpec)

/-- ITS FALSE NEIGHBOUR: 'it returns false'. Refute it at one input. -/
def fnExactValidChimneyWrong : ChangeSpec := { name := "fnExactValidChimney", fn := fun _ => fun
  | [d] => { results := [.lit (.bool false)], args := [d] }
  | _ => none }
def FnExactValidChimneyWrongFalsely : Prop := fnExactValidChimneyRow.holds Try.pinned (OpenSpec.ofChange fnExactValidChimneyWrong)

/-- 'laws.FnExactSetFlue': WHATEVER THE INPUT: true; the input reads as it did. -/
def fnExactSetFlueSpec : ChangeSpec := { name := "fnExactSetFlue", fn := fun _ => fun
  | [d1, d2, d3] => { results := [.lit (.bool true)], args := [d1, d2, d3] }
  | _ => none }
def fnExactSetFlueRow : OpenClaim := { program := "ytohmpnnncpjjlaa", sum := "cee29c28a5f4735a5a96fe5cd8c0c9e7baf165fb45aa1d1b0ae92a781e6eb85e", func := "loop.example/g01229/laws.FnExactSetFlue", spec := "fnExactSetFlue", inPlace := ["math.Float32bits", "math.Float64bits", "math.Float64frombits"], apart := false }
def FnExactSetFlueSaid : Prop := fnExactSetFlueRow.holds Try.pinned (OpenSpec.ofChange fnExactSetFlueSpec)

/-- ITS FALSE NEIGHBOUR: 'it returns false'. Refute it at one input. -/
def fnExactSetFlueWrong : ChangeSpec := { name := "fnExactSetFlue", fn := fun _ => fun
  | [d1, d2, d3] => { results := [.lit (.bool false)], args := [d1, d2, d3] }
  | _ => none }
def FnExactSetFlueWrongFalsely : Prop := fnExactSetFlueRow.holds Try.pinned (OpenSpec.ofChange fnExactSetFlueWrong)

/-- 'laws.FnExactSmokeInto': WHATEVER THE INPUT: true; the input reads as it did. -/
def fnExactSmokeIntoSpec : ChangeSpec := { name := "fnExactSmokeInto", fn := fun _ => fun
  | [d1, d2, d3, d4] => { results := [.lit (.bool true)], args := [d1, d2, d3, d4] }
  | _ => none }
def fnExactSmokeIntoRow : OpenClaim := { program := "ytohmpnnncpjjlaa", sum := "cee29c28a5f4735a5a96fe5cd8c0c9e7baf165fb45aa1d1b0ae92a781e6eb85e", func := "loop.example/g01229/laws.FnExactSmokeInto", spec := "fnExactSmokeInto", inPlace := ["math.Float32bits", "math.Float64bits", "math.Float64frombits"], apart := false }
def FnExactSmokeIntoSaid : Prop := fnExactSmokeIntoRow.holds Try.pinned (OpenSpec.ofChange fnExactSmokeIntoSpec)

/-- ITS FALSE NEIGHBOUR: 'it returns false'. Refute it at one input. -/
def fnExactSmokeIntoWrong : ChangeSpec := { name := "fnExactSmokeInto", fn := fun _ => fun
  | [d1, d2, d3, d4] => { results := [.lit (.bool false)], args := [d1, d2, d3, d4] }
  | _ => none }
def FnExactSmokeIntoWrongFalsely : Prop := fnExactSmokeIntoRow.holds Try.pinned (OpenSpec.ofChange fnExactSmokeIntoWrong)

/- THE SECOND FORM. 'bulk': how many values and letters a reading holds, each counted each time it is reached (what is shared counts as often as it is met; a slice's spare places count too). A statement '..UptoSaid' is the law's where the arguments, and the package variables that the reading takes, are together of bulk at most 1048576: NARROWER than '..Said'. Prove '..Said' where nothing that the law and all that it calls make is longer than what came in: it says more and counts as full. Else prove '..UptoSaid'. A law counts once. -/
mutual
def uptoBulk {H : Type} : DataW H → Nat
  | .lit (.string bytes) => bytes.length + 1
  | .lit _ => 1
  | .nil => 1
  | .ptr d => uptoBulk d + 1
  | .slice elems spare => uptoBulkAll elems + uptoBulkAll spare + 1
  | .agg parts => uptoBulkAll parts + 1
  | .iface _ d => uptoBulk d + 1
  | .map entries => uptoBulkEntries entries + 1
  | .held _ => 1
def uptoBulkAll {H : Type} : List (DataW H) → Nat
  | [] => 0
  | d :: r => uptoBulk d + uptoBulkAll r
def uptoBulkEntries {H : Type} : List (Lit × DataW H) → Nat
  | [] => 0
  | x :: r => uptoBulkEntry x + uptoBulkEntries r
def uptoBulkEntry {H : Type} : Lit × DataW H → Nat
  | (.string bytes, d) => bytes.length + uptoBulk d + 1
  | (_, d) => uptoBulk d + 1
 end
def uptoSmall : (H : Type) → List (DataW H) → Bool := fun _ ds => decide (uptoBulkAll ds ≤ 1048576)
def OpenSpec.upto (s : _root_.Go.ChangeSpec) : _root_.Go.OpenSpec := { _root_.Go.OpenSpec.ofChange s with cond := some uptoSmall }

/-- 'laws.FnExactIsAmount', WHERE WHAT IT READS IS OF BULK AT MOST 1048576: true; the input reads as it did. -/
def fnExactIsAmountUptoRow : OpenClaim := { program := "ytohmpnnncpjjlaa", sum := "cee29c28a5f4735a5a96fe5cd8c0c9e7baf165fb45aa1d1b0ae92a781e6eb85e", func := "loop.example/g01229/laws.FnExactIsAmount", spec := "fnExactIsAmount", inPlace := ["math.Float32bits", "math.Float64bits", "math.Float64frombits"], apart := false, narrowed := true }
def FnExactIsAmountUptoSaid : Prop := fnExactIsAmountUptoRow.holds Try.pinned (OpenSpec.upto fnExactIsAmountSpec)

/-- 'laws.FnExactNextState', WHERE WHAT IT READS IS OF BULK AT MOST 1048576: true; the input reads as it did. -/
def fnExactNextStateUptoRow : OpenClaim := { program := "ytohmpnnncpjjlaa", sum := "cee29c28a5f4735a5a96fe5cd8c0c9e7baf165fb45aa1d1b0ae92a781e6eb85e", func := "loop.example/g01229/laws.FnExactNextState", spec := "fnExactNextState", apart := false, narrowed := true }
def FnExactNextStateUptoSaid : Prop := fnExactNextStateUptoRow.holds Try.pinned (OpenSpec.upto fnExactNextStateSpec)

/-- 'laws.FnExactIsShare', WHERE WHAT IT READS IS OF BULK AT MOST 1048576: true; the input reads as it did. -/
def fnExactIsShareUptoRow : OpenClaim := { program := "ytohmpnnncpjjlaa", sum := "cee29c28a5f4735a5a96fe5cd8c0c9e7baf165fb45aa1d1b0ae92a781e6eb85e", func := "loop.example/g01229/laws.FnExactIsShare", spec := "fnExactIsShare", inPlace := ["math.Float32bits", "math.Float64bits", "math.Float64frombits"], apart := false, narrowed := true }
def FnExactIsShareUptoSaid : Prop := fnExactIsShareUptoRow.holds Try.pinned (OpenSpec.upto fnExactIsShareSpec)

/-- 'laws.FnExactReadNumber', WHERE WHAT IT READS IS OF BULK AT MOST 1048576: true; the input reads as it did. -/
def fnExactReadNumberUptoRow : OpenClaim := { program := "ytohmpnnncpjjlaa", sum := "cee29c28a5f4735a5a96fe5cd8c0c9e7baf165fb45aa1d1b0ae92a781e6eb85e", func := "loop.example/g01229/laws.FnExactReadNumber", spec := "fnExactReadNumber", inPlace := ["math.Float32frombits", "math.Float32bits", "internal/bytealg.IndexByteString"], apart := false, narrowed := true }
def FnExactReadNumberUptoSaid : Prop := fnExactReadNumberUptoRow.holds Try.pinned (OpenSpec.upto fnExactReadNumberSpec)

/-- 'laws.FnExactDraftOf', WHERE WHAT IT READS IS OF BULK AT MOST 1048576: true; the input reads as it did. -/
def fnExactDraftOfUptoRow : OpenClaim := { program := "ytohmpnnncpjjlaa", sum := "cee29c28a5f4735a5a96fe5cd8c0c9e7baf165fb45aa1d1b0ae92a781e6eb85e", func := "loop.example/g01229/laws.FnExactDraftOf", spec := "fnExactDraftOf", inPlace := ["math.Float32bits", "math.Float64bits", "math.Float64frombits"], apart := false, narrowed := true }
def FnExactDraftOfUptoSaid : Prop := fnExactDraftOfUptoRow.holds Try.pinned (OpenSpec.upto fnExactDraftOfSpec)

/-- 'laws.FnExactResistOf', WHERE WHAT IT READS IS OF BULK AT MOST 1048576: true; the input reads as it did. -/
def fnExactResistOfUptoRow : OpenClaim := { program := "ytohmpnnncpjjlaa", sum := "cee29c28a5f4735a5a96fe5cd8c0c9e7baf165fb45aa1d1b0ae92a781e6eb85e", func := "loop.example/g01229/laws.FnExactResistOf", spec := "fnExactResistOf", inPlace := ["math.Float32bits", "math.Float64bits", "math.Float64frombits"], apart := false, narrowed := true }
def FnExactResistOfUptoSaid : Prop := fnExactResistOfUptoRow.holds Try.pinned (OpenSpec.upto fnExactResistOfSpec)

/-- 'laws.FnExactSameChimney', WHERE WHAT IT READS IS OF BULK AT MOST 1048576: true; the input reads as it did. -/
def fnExactSameChimneyUptoRow : OpenClaim := { program := "ytohmpnnncpjjlaa", sum := "cee29c28a5f4735a5a96fe5cd8c0c9e7baf165fb45aa1d1b0ae92a781e6eb85e", func := "loop.example/g01229/laws.FnExactSameChimney", spec := "fnExactSameChimney", inPlace := ["math.Float32bits"], apart := false, narrowed := true }
def FnExactSameChimneyUptoSaid : Prop := fnExactSameChimneyUptoRow.holds Try.pinned (OpenSpec.upto fnExactSameChimneySpec)

/-- 'laws.FnExactFlowThrough', WHERE WHAT IT READS IS OF BULK AT MOST 1048576: true; the input reads as it did. -/
def fnExactFlowThroughUptoRow : OpenClaim := { program := "ytohmpnnncpjjlaa", sum := "cee29c28a5f4735a5a96fe5cd8c0c9e7baf165fb45aa1d1b0ae92a781e6eb85e", func := "loop.example/g01229/laws.FnExactFlowThrough", spec := "fnExactFlowThrough", inPlace := ["math.Float32bits", "math.sqrt", "math.Float64bits", "math.Float64frombits"], apart := false, narrowed := true }
def FnExactFlowThroughUptoSaid : Prop := fnExactFlowThroughUptoRow.holds Try.pinned (OpenSpec.upto fnExactFlowThroughSpec)

/-- 'laws.FnExactValidChimney', WHERE WHAT IT READS IS OF BULK AT MOST 1048576: true; the input reads as it did. -/
def fnExactValidChimneyUptoRow : OpenClaim := { program := "ytohmpnnncpjjlaa", sum := "cee29c28a5f4735a5a96fe5cd8c0c9e7baf165fb45aa1d1b0ae92a781e6eb85e", func := "loop.example/g01229/laws.FnExactValidChimney", spec := "fnExactValidChimney", inPlace := ["math.Float32bits", "math.Float64bits", "math.Float64frombits"], apart := false, narrowed := true }
def FnExactValidChimneyUptoSaid : Prop := fnExactValidChimneyUptoRow.holds Try.pinned (OpenSpec.upto fnExactValidChimneySpec)

/-- 'laws.FnExactSetFlue', WHERE WHAT IT READS IS OF BULK AT MOST 1048576: true; the input reads as it did. -/
def fnExactSetFlueUptoRow : OpenClaim := { program := "ytohmpnnncpjjlaa", sum := "cee29c28a5f4735a5a96fe5cd8c0c9e7baf165fb45aa1d1b0ae92a781e6eb85e", func := "loop.example/g01229/laws.FnExactSetFlue", spec := "fnExactSetFlue", inPlace := ["math.Float32bits", "math.Float64bits", "math.Float64frombits"], apart := false, narrowed := true }
def FnExactSetFlueUptoSaid : Prop := fnExactSetFlueUptoRow.holds Try.pinned (OpenSpec.upto fnExactSetFlueSpec)

/-- 'laws.FnExactSmokeInto', WHERE WHAT IT READS IS OF BULK AT MOST 1048576: true; the input reads as it did. -/
def fnExactSmokeIntoUptoRow : OpenClaim := { program := "ytohmpnnncpjjlaa", sum := "cee29c28a5f4735a5a96fe5cd8c0c9e7baf165fb45aa1d1b0ae92a781e6eb85e", func := "loop.example/g01229/laws.FnExactSmokeInto", spec := "fnExactSmokeInto", inPlace := ["math.Float32bits", "math.Float64bits", "math.Float64frombits"], apart := false, narrowed := true }
def FnExactSmokeIntoUptoSaid : Prop := fnExactSmokeIntoUptoRow.holds Try.pinned (OpenSpec.upto fnExactSmokeIntoSpec)

end Rows
end Go.Proofs.Ytohmpnnncpjjlaa
