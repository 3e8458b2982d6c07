/-
  DERIVED. GIVEN WITH THE SEED: THE CARDS: each row of YtbcchiaigincaaaGreatDoorRows.lean that lists a variable, with what it lists TIED to the program's text (the seventh form; the later family's looks); each row that meets fmt, with fmt's text TOLD by the authors' own Lean function (tested against real Go, not proved from fmt's source: count such statements apart). THE CARD IS WHAT COUNTS. Prove the row's statement (the work); the ties are given (YtbcchiaigincaaaGreatDoorTie.lean); close each card by the builder's one call (the guide's Derived/Test/ToyasCard.lean, 'card_holds'). Laid BY PROGRAM, IN A SANDBOX (cutbox-door.mjs). By AI agents, Wed Nov 11 2026. No macro, syntax, notation, axiom, sorry.
-/
import Derived.Test.YtbcchiaigincaaaGreatDoorRows
import GoSem.ClaimSeven
namespace Go.Proofs.YtbcchiaigincaaaGreatDoor
namespace Rows

/-- THE TIED CARD OF 'laws.FnExactParsePoly'. -/
def fnExactParsePolyCard : Claim7 := { stood := { row := fnExactParsePolyRow, standIns := [], harness := (true, "cc69b1bef9fc822585419d11f2858d9d91fc0f1602ddd131647b6e8c52c2f1e8"), looks := true }, kinds := [], alts := [], laidByText := true, laidKinds := [.data, .data, .data, .data, .sentinel, .sentinel, .pinned], laidTests := true, laidLooks := .later }
def FnExactParsePolyCardSaid : Prop := Claim7.holds Tryz.pinned (.plain (OpenSpec.ofChange fnExactParsePolySpec)) fnExactParsePolyCard

/-- THE SECOND FORM's CARD OF 'laws.FnExactParsePoly'. -/
def fnExactParsePolyUptoCard : Claim7 := { stood := { row := fnExactParsePolyUptoRow, standIns := [], harness := (true, "cc69b1bef9fc822585419d11f2858d9d91fc0f1602ddd131647b6e8c52c2f1e8"), looks := true }, kinds := [], alts := [], laidByText := true, laidKinds := [.data, .data, .data, .data, .sentinel, .sentinel, .pinned], laidTests := true, laidLooks := .later }
def FnExactParsePolyUptoCardSaid : Prop := Claim7.holds Tryz.pinned (.plain (OpenSpec.upto fnExactParsePolySpec)) fnExactParsePolyUptoCard
end Rows
end Go.Proofs.YtbcchiaigincaaaGreatDoor
