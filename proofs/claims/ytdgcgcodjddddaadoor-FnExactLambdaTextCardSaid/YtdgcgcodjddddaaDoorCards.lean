/-
  DERIVED. GIVEN WITH THE SEED: THE CARDS: each row of YtdgcgcodjddddaaDoorRows.lean that lists a variable, with what it lists TIED to the program's text (the seventh form; the later family's looks); each row that meets fmt, with fmt's text TOLD by the authors' own Lean function (tested against real Go, not proved from fmt's source: count such statements apart). THE CARD IS WHAT COUNTS. Prove the row's statement (the work); the ties are given (YtdgcgcodjddddaaDoorTie.lean); close each card by the builder's one call (the guide's Derived/Test/ToyasCard.lean, 'card_holds'). Laid BY PROGRAM, IN A SANDBOX (cutbox-door.mjs). By AI agents, Wed Nov 11 2026. No macro, syntax, notation, axiom, sorry.
-/
import Derived.Test.YtdgcgcodjddddaaDoorRows
import GoSem.ClaimSeven
namespace Go.Proofs.YtdgcgcodjddddaaDoor
namespace Rows

/-- THE TIED CARD OF 'laws.FnExactLambdaText'. -/
def fnExactLambdaTextCard : Claim7 := { stood := { row := fnExactLambdaTextRow, standIns := [], harness := (true, "d2d20b86258bbb63358257dd4a9a506ce47e3c71e60c0ce5faff28752a557848"), looks := false }, kinds := [], alts := [], laidByText := true, laidKinds := [.data, .data, .data, .data, .pinned], laidTests := true, laidLooks := .later }
def FnExactLambdaTextCardSaid : Prop := Claim7.holds Tryd.pinned (.plain (OpenSpec.ofChange fnExactLambdaTextSpec)) fnExactLambdaTextCard

/-- THE TIED CARD OF 'laws.FnExactLambdaHomology'. -/
def fnExactLambdaHomologyCard : Claim7 := { stood := { row := fnExactLambdaHomologyRow, standIns := [], harness := (true, "d2d20b86258bbb63358257dd4a9a506ce47e3c71e60c0ce5faff28752a557848"), looks := false }, kinds := [], alts := [], laidByText := true, laidKinds := [.data], laidTests := true, laidLooks := .later }
def FnExactLambdaHomologyCardSaid : Prop := Claim7.holds Tryd.pinned (.plain (OpenSpec.ofChange fnExactLambdaHomologySpec)) fnExactLambdaHomologyCard

/-- THE TIED CARD OF 'laws.FnExactSphereHomology'. -/
def fnExactSphereHomologyCard : Claim7 := { stood := { row := fnExactSphereHomologyRow, standIns := [], harness := (true, "d2d20b86258bbb63358257dd4a9a506ce47e3c71e60c0ce5faff28752a557848"), looks := false }, kinds := [], alts := [], laidByText := true, laidKinds := [.data], laidTests := true, laidLooks := .later }
def FnExactSphereHomologyCardSaid : Prop := Claim7.holds Tryd.pinned (.plain (OpenSpec.ofChange fnExactSphereHomologySpec)) fnExactSphereHomologyCard

/-- THE TIED CARD OF 'laws.FnExactIsLambdaBoundary'. -/
def fnExactIsLambdaBoundaryCard : Claim7 := { stood := { row := fnExactIsLambdaBoundaryRow, standIns := [], harness := (true, "d2d20b86258bbb63358257dd4a9a506ce47e3c71e60c0ce5faff28752a557848"), looks := false }, kinds := [], alts := [], laidByText := true, laidKinds := [.data], laidTests := true, laidLooks := .later }
def FnExactIsLambdaBoundaryCardSaid : Prop := Claim7.holds Tryd.pinned (.plain (OpenSpec.ofChange fnExactIsLambdaBoundarySpec)) fnExactIsLambdaBoundaryCard

/-- THE SECOND FORM's CARD OF 'laws.FnExactLambdaText'. -/
def fnExactLambdaTextUptoCard : Claim7 := { stood := { row := fnExactLambdaTextUptoRow, standIns := [], harness := (true, "d2d20b86258bbb63358257dd4a9a506ce47e3c71e60c0ce5faff28752a557848"), looks := false }, kinds := [], alts := [], laidByText := true, laidKinds := [.data, .data, .data, .data, .pinned], laidTests := true, laidLooks := .later }
def FnExactLambdaTextUptoCardSaid : Prop := Claim7.holds Tryd.pinned (.plain (OpenSpec.upto fnExactLambdaTextSpec)) fnExactLambdaTextUptoCard

/-- THE SECOND FORM's CARD OF 'laws.FnExactLambdaHomology'. -/
def fnExactLambdaHomologyUptoCard : Claim7 := { stood := { row := fnExactLambdaHomologyUptoRow, standIns := [], harness := (true, "d2d20b86258bbb63358257dd4a9a506ce47e3c71e60c0ce5faff28752a557848"), looks := false }, kinds := [], alts := [], laidByText := true, laidKinds := [.data], laidTests := true, laidLooks := .later }
def FnExactLambdaHomologyUptoCardSaid : Prop := Claim7.holds Tryd.pinned (.plain (OpenSpec.upto fnExactLambdaHomologySpec)) fnExactLambdaHomologyUptoCard

/-- THE SECOND FORM's CARD OF 'laws.FnExactSphereHomology'. -/
def fnExactSphereHomologyUptoCard : Claim7 := { stood := { row := fnExactSphereHomologyUptoRow, standIns := [], harness := (true, "d2d20b86258bbb63358257dd4a9a506ce47e3c71e60c0ce5faff28752a557848"), looks := false }, kinds := [], alts := [], laidByText := true, laidKinds := [.data], laidTests := true, laidLooks := .later }
def FnExactSphereHomologyUptoCardSaid : Prop := Claim7.holds Tryd.pinned (.plain (OpenSpec.upto fnExactSphereHomologySpec)) fnExactSphereHomologyUptoCard

/-- THE SECOND FORM's CARD OF 'laws.FnExactIsLambdaBoundary'. -/
def fnExactIsLambdaBoundaryUptoCard : Claim7 := { stood := { row := fnExactIsLambdaBoundaryUptoRow, standIns := [], harness := (true, "d2d20b86258bbb63358257dd4a9a506ce47e3c71e60c0ce5faff28752a557848"), looks := false }, kinds := [], alts := [], laidByText := true, laidKinds := [.data], laidTests := true, laidLooks := .later }
def FnExactIsLambdaBoundaryUptoCardSaid : Prop := Claim7.holds Tryd.pinned (.plain (OpenSpec.upto fnExactIsLambdaBoundarySpec)) fnExactIsLambdaBoundaryUptoCard
end Rows
end Go.Proofs.YtdgcgcodjddddaaDoor
