/-
  DERIVED. GIVEN WITH THE SEED: THE CARDS: each row of YtaodbpejeglmlaaDoorRows.lean that lists a variable, with what it lists TIED to the program's text (the seventh form; the later family's looks); each row that meets fmt, with fmt's text TOLD by the authors' own Lean function (tested against real Go, not proved from fmt's source: count such statements apart). THE CARD IS WHAT COUNTS. Prove the row's statement (the work); the ties are given (YtaodbpejeglmlaaDoorTie.lean); close each card by the builder's one call (the guide's Derived/Test/ToyasCard.lean, 'card_holds'). Laid BY PROGRAM, IN A SANDBOX (cutbox-door.mjs). By AI agents, Wed Nov 11 2026. No macro, syntax, notation, axiom, sorry.
-/
import Derived.Test.YtaodbpejeglmlaaDoorRows
import GoSem.ClaimSeven
namespace Go.Proofs.YtaodbpejeglmlaaDoor
namespace Rows

/-- THE TIED CARD OF 'laws.FnExactChimneyText'. -/
def fnExactChimneyTextCard : Claim7 := { stood := { row := fnExactChimneyTextRow, standIns := [], harness := (true, "a961e54c0f648040228c4f5a9bf9da664e0540ced2cfdcb8155d72be7b30d40f"), looks := false }, kinds := [], alts := [], laidByText := true, laidKinds := [.data, .data, .data], laidTests := true, laidLooks := .later }
def FnExactChimneyTextCardSaid : Prop := Claim7.holds Tryd.pinned (.plain (OpenSpec.ofChange fnExactChimneyTextSpec)) fnExactChimneyTextCard

/-- THE TIED CARD OF 'laws.FnExactStoveText'. -/
def fnExactStoveTextCard : Claim7 := { stood := { row := fnExactStoveTextRow, standIns := [], harness := (true, "a961e54c0f648040228c4f5a9bf9da664e0540ced2cfdcb8155d72be7b30d40f"), looks := false }, kinds := [], alts := [], laidByText := true, laidKinds := [.data, .data, .data], laidTests := true, laidLooks := .later }
def FnExactStoveTextCardSaid : Prop := Claim7.holds Tryd.pinned (.plain (OpenSpec.ofChange fnExactStoveTextSpec)) fnExactStoveTextCard

/-- THE SECOND FORM's CARD OF 'laws.FnExactChimneyText'. -/
def fnExactChimneyTextUptoCard : Claim7 := { stood := { row := fnExactChimneyTextUptoRow, standIns := [], harness := (true, "a961e54c0f648040228c4f5a9bf9da664e0540ced2cfdcb8155d72be7b30d40f"), looks := false }, kinds := [], alts := [], laidByText := true, laidKinds := [.data, .data, .data], laidTests := true, laidLooks := .later }
def FnExactChimneyTextUptoCardSaid : Prop := Claim7.holds Tryd.pinned (.plain (OpenSpec.upto fnExactChimneyTextSpec)) fnExactChimneyTextUptoCard

/-- THE SECOND FORM's CARD OF 'laws.FnExactStoveText'. -/
def fnExactStoveTextUptoCard : Claim7 := { stood := { row := fnExactStoveTextUptoRow, standIns := [], harness := (true, "a961e54c0f648040228c4f5a9bf9da664e0540ced2cfdcb8155d72be7b30d40f"), looks := false }, kinds := [], alts := [], laidByText := true, laidKinds := [.data, .data, .data], laidTests := true, laidLooks := .later }
def FnExactStoveTextUptoCardSaid : Prop := Claim7.holds Tryd.pinned (.plain (OpenSpec.upto fnExactStoveTextSpec)) fnExactStoveTextUptoCard
end Rows
end Go.Proofs.YtaodbpejeglmlaaDoor
