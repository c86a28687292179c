/-
  No cell of these rows narrows 'for every input' (looked for: loops, veiled, ifaces, maps, wideKeys, modest, calm, conditions, laid).
  DERIVED. THE GIVEN ROWS OF THIS SEAT. 6 by the template 'for every input the law returns true; each argument reads behind the call as it read before'; 0 by the template 'total and deterministic' (their statements: YtabiimgfpeldjaaTotals.lean).
  GIVEN WITH THE SEED: the statements are not yours to turn. If you find one false, say at which input.
  Laid BY PROGRAM, IN A SANDBOX (cutbox-rows.mjs): the forced cells as the released guide's own fill.sh prints them over the translation 9b5767157ceab698… (all of the seat's roots in one cut). By AI agents, Wed Nov 11 2026. No macro, syntax, notation, axiom, sorry.
-/
import Derived.Test.YtabiimgfpeldjaaChecked
import GoSem.Claim
import GoSem.ClaimJoined
import GoSem.ClaimMapViews
import Derived.JoinedTies
import Derived.KernelRfl
namespace Go.Proofs.Ytabiimgfpeldjaa
/- THE CELL 'sum', in the pinned program and in every row, IS THE sha256 OF THE DUMP (.gsa) THAT YtabiimgfpeldjaaProg.lean LOADS. Nothing in Lean hashes anything: it is a label: what it is worth is what the hold of that sum in a sandbox is worth. -/
noncomputable def Try.pinned : Pinned := { name := "ytabiimgfpeldjaa", sum := "9b5767157ceab6981041902f3013b4e36f774003a74a4b5bf33f05878691b763", checked := Try.checked }
namespace Rows
def none {H : Type} : Left H := { results := [], args := [] }

/-- 'laws.FnExactConstants': WHATEVER THE INPUT: true; the input reads as it did. -/
def fnExactConstantsSpec : ChangeSpec := { name := "fnExactConstants", fn := fun _ => fun
  | [] => { results := [.lit (.bool true)], args := [] }
  | _ => none }
def fnExactConstantsRow : OpenClaim := { program := "ytabiimgfpeldjaa", sum := "9b5767157ceab6981041902f3013b4e36f774003a74a4b5bf33f05878691b763", func := "loop.example/g01229/laws.FnExactConstants", spec := "fnExactConstants", apart := false }
def FnExactConstantsSaid : Prop := fnExactConstantsRow.holds Try.pinned (OpenSpec.ofChange fnExactConstantsSpec)

/-- ITS FALSE NEIGHBOUR: 'it returns false'. Refute it at one input. -/
def fnExactConstantsWrong : ChangeSpec := { name := "fnExactConstants", fn := fun _ => fun
  | [] => { results := [.lit (.bool false)], args := [] }
  | _ => none }
def FnExactConstantsWrongFalsely : Prop := fnExactConstantsRow.holds Try.pinned (OpenSpec.ofChange fnExactConstantsWrong)

/-- 'laws.FnExactSameNumber': WHATEVER THE INPUT: true; the input reads as it did. -/
def fnExactSameNumberSpec : ChangeSpec := { name := "fnExactSameNumber", fn := fun _ => fun
  | [d1, d2] => { results := [.lit (.bool true)], args := [d1, d2] }
  | _ => none }
def fnExactSameNumberRow : OpenClaim := { program := "ytabiimgfpeldjaa", sum := "9b5767157ceab6981041902f3013b4e36f774003a74a4b5bf33f05878691b763", func := "loop.example/g01229/laws.FnExactSameNumber", spec := "fnExactSameNumber", inPlace := ["math.Float32bits"], apart := false }
def FnExactSameNumberSaid : Prop := fnExactSameNumberRow.holds Try.pinned (OpenSpec.ofChange fnExactSameNumberSpec)

/-- ITS FALSE NEIGHBOUR: 'it returns false'. Refute it at one input. -/
def fnExactSameNumberWrong : ChangeSpec := { name := "fnExactSameNumber", fn := fun _ => fun
  | [d1, d2] => { results := [.lit (.bool false)], args := [d1, d2] }
  | _ => none }
def FnExactSameNumberWrongFalsely : Prop := fnExactSameNumberRow.holds Try.pinned (OpenSpec.ofChange fnExactSameNumberWrong)

/-- 'laws.FnExactCodeName': WHATEVER THE INPUT: true; the input reads as it did. -/
def fnExactCodeNameSpec : ChangeSpec := { name := "fnExactCodeName", fn := fun _ => fun
  | [d] => { results := [.lit (.bool true)], args := [d] }
  | _ => none }
def fnExactCodeNameRow : OpenClaim := { program := "ytabiimgfpeldjaa", sum := "9b5767157ceab6981041902f3013b4e36f774003a74a4b5bf33f05878691b763", func := "loop.example/g01229/laws.FnExactCodeName", spec := "fnExactCodeName", apart := false }
def FnExactCodeNameSaid : Prop := fnExactCodeNameRow.holds Try.pinned (OpenSpec.ofChange fnExactCodeNameSpec)

/-- ITS FALSE NEIGHBOUR: 'it returns false'. Refute it at one input. -/
def fnExactCodeNameWrong : ChangeSpec := { name := "fnExactCodeName", fn := fun _ => fun
  | [d] => { results := [.lit (.bool false)], args := [d] }
  | _ => none }
def FnExactCodeNameWrongFalsely : Prop := fnExactCodeNameRow.holds Try.pinned (OpenSpec.ofChange fnExactCodeNameWrong)

/-- 'laws.FnExactStateName': WHATEVER THE INPUT: true; the input reads as it did. -/
def fnExactStateNameSpec : ChangeSpec := { name := "fnExactStateName", fn := fun _ => fun
  | [d] => { results := [.lit (.bool true)], args := [d] }
  | _ => none }
def fnExactStateNameRow : OpenClaim := { program := "ytabiimgfpeldjaa", sum := "9b5767157ceab6981041902f3013b4e36f774003a74a4b5bf33f05878691b763", func := "loop.example/g01229/laws.FnExactStateName", spec := "fnExactStateName", apart := false }
def FnExactStateNameSaid : Prop := fnExactStateNameRow.holds Try.pinned (OpenSpec.ofChange fnExactStateNameSpec)

/-- ITS FALSE NEIGHBOUR: 'it returns false'. Refute it at one input. -/
def fnExactStateNameWrong : ChangeSpec := { name := "fnExactStateName", fn := fun _ => fun
  | [d] => { results := [.lit (.bool false)], args := [d] }
  | _ => none }
def FnExactStateNameWrongFalsely : Prop := fnExactStateNameRow.holds Try.pinned (OpenSpec.ofChange fnExactStateNameWrong)

/-- 'laws.FnExactDenseAt': WHATEVER THE INPUT: true; the input reads as it did. -/
def fnExactDenseAtSpec : ChangeSpec := { name := "fnExactDenseAt", fn := fun _ => fun
  | [d] => { results := [.lit (.bool true)], args := [d] }
  | _ => none }
def fnExactDenseAtRow : OpenClaim := { program := "ytabiimgfpeldjaa", sum := "9b5767157ceab6981041902f3013b4e36f774003a74a4b5bf33f05878691b763", func := "loop.example/g01229/laws.FnExactDenseAt", spec := "fnExactDenseAt", apart := false }
def FnExactDenseAtSaid : Prop := fnExactDenseAtRow.holds Try.pinned (OpenSpec.ofChange fnExactDenseAtSpec)

/-- ITS FALSE NEIGHBOUR: 'it returns false'. Refute it at one input. -/
def fnExactDenseAtWrong : ChangeSpec := { name := "fnExactDenseAt", fn := fun _ => fun
  | [d] => { results := [.lit (.bool false)], args := [d] }
  | _ => none }
def FnExactDenseAtWrongFalsely : Prop := fnExactDenseAtRow.holds Try.pinned (OpenSpec.ofChange fnExactDenseAtWrong)

/-- 'laws.FnExactNumberText': WHATEVER THE INPUT: true; the input reads as it did. -/
def fnExactNumberTextSpec : ChangeSpec := { name := "fnExactNumberText", fn := fun _ => fun
  | [d] => { results := [.lit (.bool true)], args := [d] }
  | _ => none }
def fnExactNumberTextRow : OpenClaim := { program := "ytabiimgfpeldjaa", sum := "9b5767157ceab6981041902f3013b4e36f774003a74a4b5bf33f05878691b763", func := "loop.example/g01229/laws.FnExactNumberText", spec := "fnExactNumberText", inPlace := ["math.Float32bits"], apart := false }
def FnExactNumberTextSaid : Prop := fnExactNumberTextRow.holds Try.pinned (OpenSpec.ofChange fnExactNumberTextSpec)

/-- ITS FALSE NEIGHBOUR: 'it returns false'. Refute it at one input. -/
def fnExactNumberTextWrong : ChangeSpec := { name := "fnExactNumberText", fn := fun _ => fun
  | [d] => { results := [.lit (.bool false)], args := [d] }
  | _ => none }
def FnExactNumberTextWrongFalsely : Prop := fnExactNumberTextRow.holds Try.pinned (OpenSpec.ofChange fnExactNumberTextWrong)

/- THE SECOND FORM. 'bulk': how many values and letters a reading holds, each counted each time it is reached (what is shared counts as often as it is met; a slice's spare places count too). A statement '..UptoSaid' is the law's where the arguments, and the package variables that the reading takes, are together of bulk at most 1048576: NARROWER than '..Said'. Prove '..Said' where nothing that the law and all that it calls make is longer than what came in: it says more and counts as full. Else prove '..UptoSaid'. A law counts once. -/
mutual
def uptoBulk {H : Type} : DataW H → Nat
  | .lit (.string bytes) => bytes.length + 1
  | .lit _ => 1
  | .nil => 1
  | .ptr d => uptoBulk d + 1
  | .slice elems spare => uptoBulkAll elems + uptoBulkAll spare + 1
  | .agg parts => uptoBulkAll parts + 1
  | .iface _ d => uptoBulk d + 1
  | .map entries => uptoBulkEntries entries + 1
  | .held _ => 1
def uptoBulkAll {H : Type} : List (DataW H) → Nat
  | [] => 0
  | d :: r => uptoBulk d + uptoBulkAll r
def uptoBulkEntries {H : Type} : List (Lit × DataW H) → Nat
  | [] => 0
  | x :: r => uptoBulkEntry x + uptoBulkEntries r
def uptoBulkEntry {H : Type} : Lit × DataW H → Nat
  | (.string bytes, d) => bytes.length + uptoBulk d + 1
  | (_, d) => uptoBulk d + 1
 end
def uptoSmall : (H : Type) → List (DataW H) → Bool := fun _ ds => decide (uptoBulkAll ds ≤ 1048576)
def OpenSpec.upto (s : _root_.Go.ChangeSpec) : _root_.Go.OpenSpec := { _root_.Go.OpenSpec.ofChange s with cond := some uptoSmall }

/-- 'laws.FnExactConstants', WHERE WHAT IT READS IS OF BULK AT MOST 1048576: true; the input reads as it did. -/
def fnExactConstantsUptoRow : OpenClaim := { program := "ytabiimgfpeldjaa", sum := "9b5767157ceab6981041902f3013b4e36f774003a74a4b5bf33f05878691b763", func := "loop.example/g01229/laws.FnExactConstants", spec := "fnExactConstants", apart := false, narrowed := true }
def FnExactConstantsUptoSaid : Prop := fnExactConstantsUptoRow.holds Try.pinned (OpenSpec.upto fnExactConstantsSpec)

/-- 'laws.FnExactSameNumber', WHERE WHAT IT READS IS OF BULK AT MOST 1048576: true; the input reads as it did. -/
def fnExactSameNumberUptoRow : OpenClaim := { program := "ytabiimgfpeldjaa", sum := "9b5767157ceab6981041902f3013b4e36f774003a74a4b5bf33f05878691b763", func := "loop.example/g01229/laws.FnExactSameNumber", spec := "fnExactSameNumber", inPlace := ["math.Float32bits"], apart := false, narrowed := true }
def FnExactSameNumberUptoSaid : Prop := fnExactSameNumberUptoRow.holds Try.pinned (OpenSpec.upto fnExactSameNumberSpec)

/-- 'laws.FnExactCodeName', WHERE WHAT IT READS IS OF BULK AT MOST 1048576: true; the input reads as it did. -/
def fnExactCodeNameUptoRow : OpenClaim := { program := "ytabiimgfpeldjaa", sum := "9b5767157ceab6981041902f3013b4e36f774003a74a4b5bf33f05878691b763", func := "loop.example/g01229/laws.FnExactCodeName", spec := "fnExactCodeName", apart := false, narrowed := true }
def FnExactCodeNameUptoSaid : Prop := fnExactCodeNameUptoRow.holds Try.pinned (OpenSpec.upto fnExactCodeNameSpec)

/-- 'laws.FnExactStateName', WHERE WHAT IT READS IS OF BULK AT MOST 1048576: true; the input reads as it did. -/
def fnExactStateNameUptoRow : OpenClaim := { program := "ytabiimgfpeldjaa", sum := "9b5767157ceab6981041902f3013b4e36f774003a74a4b5bf33f05878691b763", func := "loop.example/g01229/laws.FnExactStateName", spec := "fnExactStateName", apart := false, narrowed := true }
def FnExactStateNameUptoSaid : Prop := fnExactStateNameUptoRow.holds Try.pinned (OpenSpec.upto fnExactStateNameSpec)

/-- 'laws.FnExactDenseAt', WHERE WHAT IT READS IS OF BULK AT MOST 1048576: true; the input reads as it did. -/
def fnExactDenseAtUptoRow : OpenClaim := { program := "ytabiimgfpeldjaa", sum := "9b5767157ceab6981041902f3013b4e36f774003a74a4b5bf33f05878691b763", func := "loop.example/g01229/laws.FnExactDenseAt", spec := "fnExactDenseAt", apart := false, narrowed := true }
def FnExactDenseAtUptoSaid : Prop := fnExactDenseAtUptoRow.holds Try.pinned (OpenSpec.upto fnExactDenseAtSpec)

/-- 'laws.FnExactNumberText', WHERE WHAT IT READS IS OF BULK AT MOST 1048576: true; the input reads as it did. -/
def fnExactNumberTextUptoRow : OpenClaim := { program := "ytabiimgfpeldjaa", sum := "9b5767157ceab6981041902f3013b4e36f774003a74a4b5bf33f05878691b763", func := "loop.example/g01229/laws.FnExactNumberText", spec := "fnExactNumberText", inPlace := ["math.Float32bits"], apart := false, narrowed := true }
def FnExactNumberTextUptoSaid : Prop := fnExactNumberTextUptoRow.holds Try.pinned (OpenSpec.upto fnExactNumberTextSpec)

end Rows
end Go.Proofs.Ytabiimgfpeldjaa
