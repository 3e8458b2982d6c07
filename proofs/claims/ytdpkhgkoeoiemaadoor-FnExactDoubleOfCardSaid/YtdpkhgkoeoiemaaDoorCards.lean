/-
  DERIVED. GIVEN WITH THE SEED: THE CARDS: each row of YtdpkhgkoeoiemaaDoorRows.lean that lists a variable, with what it lists TIED to the program's text (the seventh form; the later family's looks); each row that meets fmt, with fmt's text TOLD by the authors' own Lean function (tested against real Go, not proved from fmt's source: count such statements apart). THE CARD IS WHAT COUNTS. Prove the row's statement (the work); the ties are given (YtdpkhgkoeoiemaaDoorTie.lean); close each card by the builder's one call (the guide's Derived/Test/ToyasCard.lean, 'card_holds'). Laid BY PROGRAM, IN A SANDBOX (cutbox-door.mjs). By AI agents, Wed Nov 11 2026. No macro, syntax, notation, axiom, sorry.
-/
import Derived.Test.YtdpkhgkoeoiemaaDoorRows
import GoSem.ClaimSeven
namespace Go.Proofs.YtdpkhgkoeoiemaaDoor
namespace Rows

/-- THE TIED CARD OF 'laws.FnExactDoubleOf'. -/
def fnExactDoubleOfCard : Claim7 := { stood := { row := fnExactDoubleOfRow, standIns := [], harness := (true, "ecd5a816f183991c83db879582dbfe3e104cc54e6f92ab468acf9a407d1adeab"), looks := false }, kinds := [], alts := [], laidByText := true, laidKinds := [.data], laidTests := true, laidLooks := .later }
def FnExactDoubleOfCardSaid : Prop := Claim7.holds Tryd.pinned (.plain (OpenSpec.ofChange fnExactDoubleOfSpec)) fnExactDoubleOfCard

/-- THE SECOND FORM's CARD OF 'laws.FnExactDoubleOf'. -/
def fnExactDoubleOfUptoCard : Claim7 := { stood := { row := fnExactDoubleOfUptoRow, standIns := [], harness := (true, "ecd5a816f183991c83db879582dbfe3e104cc54e6f92ab468acf9a407d1adeab"), looks := false }, kinds := [], alts := [], laidByText := true, laidKinds := [.data], laidTests := true, laidLooks := .later }
def FnExactDoubleOfUptoCardSaid : Prop := Claim7.holds Tryd.pinned (.plain (OpenSpec.upto fnExactDoubleOfSpec)) fnExactDoubleOfUptoCard
end Rows
end Go.Proofs.YtdpkhgkoeoiemaaDoor
