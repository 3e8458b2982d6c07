/-
  DERIVED. GIVEN WITH THE SEED: THE CARDS: each row of YtejojliljplcdaaGreatDoorRows.lean that lists a variable, with what it lists TIED to the program's text (the seventh form; the later family's looks); each row that meets fmt, with fmt's text TOLD by the authors' own Lean function (tested against real Go, not proved from fmt's source: count such statements apart). THE CARD IS WHAT COUNTS. Prove the row's statement (the work); the ties are given (YtejojliljplcdaaGreatDoorTie.lean); close each card by the builder's one call (the guide's Derived/Test/ToyasCard.lean, 'card_holds'). Laid BY PROGRAM, IN A SANDBOX (cutbox-door.mjs). By AI agents, Wed Nov 11 2026. No macro, syntax, notation, axiom, sorry.
-/
import Derived.Test.YtejojliljplcdaaGreatDoorRows
import GoSem.ClaimSeven
namespace Go.Proofs.YtejojliljplcdaaGreatDoor
namespace Rows

/-- THE TIED CARD OF 'laws.FnExactUnstableQuotient'. -/
def fnExactUnstableQuotientCard : Claim7 := { stood := { row := fnExactUnstableQuotientRow, standIns := [], harness := (true, "629d49d1885bd1143862e2e263adde85b1c2bd2fd681fb89c2693ec49d9133ab"), looks := false }, kinds := [], alts := [], laidByText := true, laidKinds := [.data], laidTests := true, laidLooks := .later }
def FnExactUnstableQuotientCardSaid : Prop := Claim7.holds Tryz.pinned (.plain (OpenSpec.ofChange fnExactUnstableQuotientSpec)) fnExactUnstableQuotientCard

/-- THE TIED CARD OF 'laws.FnExactLoopsOf'. -/
def fnExactLoopsOfCard : Claim7 := { stood := { row := fnExactLoopsOfRow, standIns := [], harness := (true, "629d49d1885bd1143862e2e263adde85b1c2bd2fd681fb89c2693ec49d9133ab"), looks := false }, kinds := [], alts := [], laidByText := true, laidKinds := [.data], laidTests := true, laidLooks := .later }
def FnExactLoopsOfCardSaid : Prop := Claim7.holds Tryz.pinned (.plain (OpenSpec.ofChange fnExactLoopsOfSpec)) fnExactLoopsOfCard

/-- THE TIED CARD OF 'laws.FnUnstable'. -/
def fnUnstableCard : Claim7 := { stood := { row := fnUnstableRow, standIns := [], harness := (true, "629d49d1885bd1143862e2e263adde85b1c2bd2fd681fb89c2693ec49d9133ab"), looks := false }, kinds := [], alts := [], laidByText := true, laidKinds := [.data], laidTests := true, laidLooks := .later }
def FnUnstableCardSaid : Prop := Claim7.holds Tryz.pinned (.plain (OpenSpec.ofChange fnUnstableSpec)) fnUnstableCard

/-- THE SECOND FORM's CARD OF 'laws.FnExactUnstableQuotient'. -/
def fnExactUnstableQuotientUptoCard : Claim7 := { stood := { row := fnExactUnstableQuotientUptoRow, standIns := [], harness := (true, "629d49d1885bd1143862e2e263adde85b1c2bd2fd681fb89c2693ec49d9133ab"), looks := false }, kinds := [], alts := [], laidByText := true, laidKinds := [.data], laidTests := true, laidLooks := .later }
def FnExactUnstableQuotientUptoCardSaid : Prop := Claim7.holds Tryz.pinned (.plain (OpenSpec.upto fnExactUnstableQuotientSpec)) fnExactUnstableQuotientUptoCard

/-- THE SECOND FORM's CARD OF 'laws.FnExactLoopsOf'. -/
def fnExactLoopsOfUptoCard : Claim7 := { stood := { row := fnExactLoopsOfUptoRow, standIns := [], harness := (true, "629d49d1885bd1143862e2e263adde85b1c2bd2fd681fb89c2693ec49d9133ab"), looks := false }, kinds := [], alts := [], laidByText := true, laidKinds := [.data], laidTests := true, laidLooks := .later }
def FnExactLoopsOfUptoCardSaid : Prop := Claim7.holds Tryz.pinned (.plain (OpenSpec.upto fnExactLoopsOfSpec)) fnExactLoopsOfUptoCard

/-- THE SECOND FORM's CARD OF 'laws.FnUnstable'. -/
def fnUnstableUptoCard : Claim7 := { stood := { row := fnUnstableUptoRow, standIns := [], harness := (true, "629d49d1885bd1143862e2e263adde85b1c2bd2fd681fb89c2693ec49d9133ab"), looks := false }, kinds := [], alts := [], laidByText := true, laidKinds := [.data], laidTests := true, laidLooks := .later }
def FnUnstableUptoCardSaid : Prop := Claim7.holds Tryz.pinned (.plain (OpenSpec.upto fnUnstableSpec)) fnUnstableUptoCard
end Rows
end Go.Proofs.YtejojliljplcdaaGreatDoor
