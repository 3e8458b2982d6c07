/-
  DERIVED. GIVEN WITH THE SEED: THE CARDS: each row of YtgmbbpaokcjnhaaGreatDoorRows.lean that lists a variable, with what it lists TIED to the program's text (the seventh form; the later family's looks); each row that meets fmt, with fmt's text TOLD by the authors' own Lean function (tested against real Go, not proved from fmt's source: count such statements apart). THE CARD IS WHAT COUNTS. Prove the row's statement (the work); the ties are given (YtgmbbpaokcjnhaaGreatDoorTie.lean); close each card by the builder's one call (the guide's Derived/Test/ToyasCard.lean, 'card_holds'). Laid BY PROGRAM, IN A SANDBOX (cutbox-door.mjs). By AI agents, Wed Nov 11 2026. No macro, syntax, notation, axiom, sorry.
-/
import Derived.Test.YtgmbbpaokcjnhaaGreatDoorRows
import GoSem.ClaimSeven
namespace Go.Proofs.YtgmbbpaokcjnhaaGreatDoor
namespace Rows

/-- THE TIED CARD OF 'laws.FnLambda'. -/
def fnLambdaCard : Claim7 := { stood := { row := fnLambdaRow, standIns := [], harness := (true, "4f31a3bc607f1e03eb7bf6ba0baf3798b716ac5220cf4d4ef0c13d181d0d61b2"), looks := false }, kinds := [], alts := [], laidByText := true, laidKinds := [.data, .data, .data, .data, .pinned], laidTests := true, laidLooks := .later }
def FnLambdaCardSaid : Prop := Claim7.holds Tryz.pinned (.plain (OpenSpec.ofChange fnLambdaSpec)) fnLambdaCard

/-- THE SECOND FORM's CARD OF 'laws.FnLambda'. -/
def fnLambdaUptoCard : Claim7 := { stood := { row := fnLambdaUptoRow, standIns := [], harness := (true, "4f31a3bc607f1e03eb7bf6ba0baf3798b716ac5220cf4d4ef0c13d181d0d61b2"), looks := false }, kinds := [], alts := [], laidByText := true, laidKinds := [.data, .data, .data, .data, .pinned], laidTests := true, laidLooks := .later }
def FnLambdaUptoCardSaid : Prop := Claim7.holds Tryz.pinned (.plain (OpenSpec.upto fnLambdaSpec)) fnLambdaUptoCard
end Rows
end Go.Proofs.YtgmbbpaokcjnhaaGreatDoor
