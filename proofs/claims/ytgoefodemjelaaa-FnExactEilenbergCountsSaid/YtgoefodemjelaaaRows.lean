/-
  No cell of these rows narrows 'for every input' (looked for: loops, veiled, ifaces, maps, wideKeys, modest, calm, conditions, laid).
  DERIVED. THE GIVEN ROWS OF THIS SEAT. 12 by the template 'for every input the law returns true; each argument reads behind the call as it read before'; 0 by the template 'total and deterministic' (their statements: YtgoefodemjelaaaTotals.lean).
  GIVEN WITH THE SEED: the statements are not yours to turn. If you find one false, say at which input.
  Laid BY PROGRAM, IN A SANDBOX (cutbox-rows.mjs): the forced cells as the released guide's own fill.sh prints them over the translation f9a7d2691dfc9327… (all of the seat's roots in one cut). By AI agents, Wed Nov 11 2026. No macro, syntax, notation, axiom, sorry.
-/
import Derived.Test.YtgoefodemjelaaaChecked
import GoSem.Claim
import GoSem.ClaimJoined
import GoSem.ClaimMapViews
import Derived.JoinedTies
import Derived.KernelRfl
namespace Go.Proofs.Ytgoefodemjelaaa
/- THE CELL 'sum', in the pinned program and in every row, IS THE sha256 OF THE DUMP (.gsa) THAT YtgoefodemjelaaaProg.lean LOADS. Nothing in Lean hashes anything: it is a label: what it is worth is what the hold of that sum in a sandbox is worth. -/
noncomputable def Try.pinned : Pinned := { name := "ytgoefodemjelaaa", sum := "f9a7d2691dfc93270b6809de2b6ef837322a4db45ee729eebc1fbb4286be7b15", checked := Try.checked }
namespace Rows
def none {H : Type} : Left H := { results := [], args := [] }

/-- 'laws.FnExactIsNonnegative': WHATEVER THE INPUT: true; the input reads as it did. -/
def fnExactIsNonnegativeSpec : ChangeSpec := { name := "fnExactIsNonnegative", fn := fun _ => fun
  | [d] => { results := [.lit (.bool true)], args := [d] }
  | _ => none }
def fnExactIsNonnegativeRow : OpenClaim := { program := "ytgoefodemjelaaa", sum := "f9a7d2691dfc93270b6809de2b6ef837322a4db45ee729eebc1fbb4286be7b15", func := "loop.example/g01154/laws.FnExactIsNonnegative", spec := "fnExactIsNonnegative", unfollowed := true, recurses := true, apart := false }
def FnExactIsNonnegativeSaid : Prop := fnExactIsNonnegativeRow.holds Try.pinned (OpenSpec.ofChange fnExactIsNonnegativeSpec)

/-- ITS FALSE NEIGHBOUR: 'it returns false'. Refute it at one input. -/
def fnExactIsNonnegativeWrong : ChangeSpec := { name := "fnExactIsNonnegative", fn := fun _ => fun
  | [d] => { results := [.lit (.bool false)], args := [d] }
  | _ => none }
def FnExactIsNonnegativeWrongFalsely : Prop := fnExactIsNonnegativeRow.holds Try.pinned (OpenSpec.ofChange fnExactIsNonnegativeWrong)

/-- 'laws.FnExactSeriesOfAlgebra': WHATEVER THE INPUT: true; the input reads as it did. -/
def fnExactSeriesOfAlgebraSpec : ChangeSpec := { name := "fnExactSeriesOfAlgebra", fn := fun _ => fun
  | [d] => { results := [.lit (.bool true)], args := [d] }
  | _ => none }
def fnExactSeriesOfAlgebraRow : OpenClaim := { program := "ytgoefodemjelaaa", sum := "f9a7d2691dfc93270b6809de2b6ef837322a4db45ee729eebc1fbb4286be7b15", func := "loop.example/g01154/laws.FnExactSeriesOfAlgebra", spec := "fnExactSeriesOfAlgebra", unfollowed := true, recurses := true, apart := false }
def FnExactSeriesOfAlgebraSaid : Prop := fnExactSeriesOfAlgebraRow.holds Try.pinned (OpenSpec.ofChange fnExactSeriesOfAlgebraSpec)

/-- ITS FALSE NEIGHBOUR: 'it returns false'. Refute it at one input. -/
def fnExactSeriesOfAlgebraWrong : ChangeSpec := { name := "fnExactSeriesOfAlgebra", fn := fun _ => fun
  | [d] => { results := [.lit (.bool false)], args := [d] }
  | _ => none }
def FnExactSeriesOfAlgebraWrongFalsely : Prop := fnExactSeriesOfAlgebraRow.holds Try.pinned (OpenSpec.ofChange fnExactSeriesOfAlgebraWrong)

/-- 'laws.FnExactShiftSeries': WHATEVER THE INPUT: true; the input reads as it did. -/
def fnExactShiftSeriesSpec : ChangeSpec := { name := "fnExactShiftSeries", fn := fun _ => fun
  | [d1, d2] => { results := [.lit (.bool true)], args := [d1, d2] }
  | _ => none }
def fnExactShiftSeriesRow : OpenClaim := { program := "ytgoefodemjelaaa", sum := "f9a7d2691dfc93270b6809de2b6ef837322a4db45ee729eebc1fbb4286be7b15", func := "loop.example/g01154/laws.FnExactShiftSeries", spec := "fnExactShiftSeries", unfollowed := true, recurses := true, apart := false }
def FnExactShiftSeriesSaid : Prop := fnExactShiftSeriesRow.holds Try.pinned (OpenSpec.ofChange fnExactShiftSeriesSpec)

/-- ITS FALSE NEIGHBOUR: 'it returns false'. Refute it at one input. -/
def fnExactShiftSeriesWrong : ChangeSpec := { name := "fnExactShiftSeries", fn := fun _ => fun
  | [d1, d2] => { results := [.lit (.bool false)], args := [d1, d2] }
  | _ => none }
def FnExactShiftSeriesWrongFalsely : Prop := fnExactShiftSeriesRow.holds Try.pinned (OpenSpec.ofChange fnExactShiftSeriesWrong)

/-- 'laws.FnExactLambdaBasis': WHATEVER THE INPUT: true; the input reads as it did. -/
def fnExactLambdaBasisSpec : ChangeSpec := { name := "fnExactLambdaBasis", fn := fun _ => fun
  | [d1, d2] => { results := [.lit (.bool true)], args := [d1, d2] }
  | _ => none }
def fnExactLambdaBasisRow : OpenClaim := { program := "ytgoefodemjelaaa", sum := "f9a7d2691dfc93270b6809de2b6ef837322a4db45ee729eebc1fbb4286be7b15", func := "loop.example/g01154/laws.FnExactLambdaBasis", spec := "fnExactLambdaBasis", recurses := true, apart := false }
def FnExactLambdaBasisSaid : Prop := fnExactLambdaBasisRow.holds Try.pinned (OpenSpec.ofChange fnExactLambdaBasisSpec)

/-- ITS FALSE NEIGHBOUR: 'it returns false'. Refute it at one input. -/
def fnExactLambdaBasisWrong : ChangeSpec := { name := "fnExactLambdaBasis", fn := fun _ => fun
  | [d1, d2] => { results := [.lit (.bool false)], args := [d1, d2] }
  | _ => none }
def FnExactLambdaBasisWrongFalsely : Prop := fnExactLambdaBasisRow.holds Try.pinned (OpenSpec.ofChange fnExactLambdaBasisWrong)

/-- 'laws.FnExactSphereBasis': WHATEVER THE INPUT: true; the input reads as it did. -/
def fnExactSphereBasisSpec : ChangeSpec := { name := "fnExactSphereBasis", fn := fun _ => fun
  | [d1, d2, d3] => { results := [.lit (.bool true)], args := [d1, d2, d3] }
  | _ => none }
def fnExactSphereBasisRow : OpenClaim := { program := "ytgoefodemjelaaa", sum := "f9a7d2691dfc93270b6809de2b6ef837322a4db45ee729eebc1fbb4286be7b15", func := "loop.example/g01154/laws.FnExactSphereBasis", spec := "fnExactSphereBasis", recurses := true, apart := false }
def FnExactSphereBasisSaid : Prop := fnExactSphereBasisRow.holds Try.pinned (OpenSpec.ofChange fnExactSphereBasisSpec)

/-- ITS FALSE NEIGHBOUR: 'it returns false'. Refute it at one input. -/
def fnExactSphereBasisWrong : ChangeSpec := { name := "fnExactSphereBasis", fn := fun _ => fun
  | [d1, d2, d3] => { results := [.lit (.bool false)], args := [d1, d2, d3] }
  | _ => none }
def FnExactSphereBasisWrongFalsely : Prop := fnExactSphereBasisRow.holds Try.pinned (OpenSpec.ofChange fnExactSphereBasisWrong)

/-- 'laws.FnExactSumsOfSeries': WHATEVER THE INPUT: true; the input reads as it did. -/
def fnExactSumsOfSeriesSpec : ChangeSpec := { name := "fnExactSumsOfSeries", fn := fun _ => fun
  | [d] => { results := [.lit (.bool true)], args := [d] }
  | _ => none }
def fnExactSumsOfSeriesRow : OpenClaim := { program := "ytgoefodemjelaaa", sum := "f9a7d2691dfc93270b6809de2b6ef837322a4db45ee729eebc1fbb4286be7b15", func := "loop.example/g01154/laws.FnExactSumsOfSeries", spec := "fnExactSumsOfSeries", unfollowed := true, recurses := true, apart := false }
def FnExactSumsOfSeriesSaid : Prop := fnExactSumsOfSeriesRow.holds Try.pinned (OpenSpec.ofChange fnExactSumsOfSeriesSpec)

/-- ITS FALSE NEIGHBOUR: 'it returns false'. Refute it at one input. -/
def fnExactSumsOfSeriesWrong : ChangeSpec := { name := "fnExactSumsOfSeries", fn := fun _ => fun
  | [d] => { results := [.lit (.bool false)], args := [d] }
  | _ => none }
def FnExactSumsOfSeriesWrongFalsely : Prop := fnExactSumsOfSeriesRow.holds Try.pinned (OpenSpec.ofChange fnExactSumsOfSeriesWrong)

/-- 'laws.FnExactSeriesOfPolynomials': WHATEVER THE INPUT: true; the input reads as it did. -/
def fnExactSeriesOfPolynomialsSpec : ChangeSpec := { name := "fnExactSeriesOfPolynomials", fn := fun _ => fun
  | [d1, d2] => { results := [.lit (.bool true)], args := [d1, d2] }
  | _ => none }
def fnExactSeriesOfPolynomialsRow : OpenClaim := { program := "ytgoefodemjelaaa", sum := "f9a7d2691dfc93270b6809de2b6ef837322a4db45ee729eebc1fbb4286be7b15", func := "loop.example/g01154/laws.FnExactSeriesOfPolynomials", spec := "fnExactSeriesOfPolynomials", unfollowed := true, recurses := true, apart := false }
def FnExactSeriesOfPolynomialsSaid : Prop := fnExactSeriesOfPolynomialsRow.holds Try.pinned (OpenSpec.ofChange fnExactSeriesOfPolynomialsSpec)

/-- ITS FALSE NEIGHBOUR: 'it returns false'. Refute it at one input. -/
def fnExactSeriesOfPolynomialsWrong : ChangeSpec := { name := "fnExactSeriesOfPolynomials", fn := fun _ => fun
  | [d1, d2] => { results := [.lit (.bool false)], args := [d1, d2] }
  | _ => none }
def FnExactSeriesOfPolynomialsWrongFalsely : Prop := fnExactSeriesOfPolynomialsRow.holds Try.pinned (OpenSpec.ofChange fnExactSeriesOfPolynomialsWrong)

/-- 'laws.FnExactSeriesOfInvariants': WHATEVER THE INPUT: true; the input reads as it did. -/
def fnExactSeriesOfInvariantsSpec : ChangeSpec := { name := "fnExactSeriesOfInvariants", fn := fun _ => fun
  | [d1, d2] => { results := [.lit (.bool true)], args := [d1, d2] }
  | _ => none }
def fnExactSeriesOfInvariantsRow : OpenClaim := { program := "ytgoefodemjelaaa", sum := "f9a7d2691dfc93270b6809de2b6ef837322a4db45ee729eebc1fbb4286be7b15", func := "loop.example/g01154/laws.FnExactSeriesOfInvariants", spec := "fnExactSeriesOfInvariants", unfollowed := true, recurses := true, apart := false }
def FnExactSeriesOfInvariantsSaid : Prop := fnExactSeriesOfInvariantsRow.holds Try.pinned (OpenSpec.ofChange fnExactSeriesOfInvariantsSpec)

/-- ITS FALSE NEIGHBOUR: 'it returns false'. Refute it at one input. -/
def fnExactSeriesOfInvariantsWrong : ChangeSpec := { name := "fnExactSeriesOfInvariants", fn := fun _ => fun
  | [d1, d2] => { results := [.lit (.bool false)], args := [d1, d2] }
  | _ => none }
def FnExactSeriesOfInvariantsWrongFalsely : Prop := fnExactSeriesOfInvariantsRow.holds Try.pinned (OpenSpec.ofChange fnExactSeriesOfInvariantsWrong)

/-- 'laws.FnExactSeriesOfFreeModule': WHATEVER THE INPUT: true; the input reads as it did. -/
def fnExactSeriesOfFreeModuleSpec : ChangeSpec := { name := "fnExactSeriesOfFreeModule", fn := fun _ => fun
  | [d1, d2] => { results := [.lit (.bool true)], args := [d1, d2] }
  | _ => none }
def fnExactSeriesOfFreeModuleRow : OpenClaim := { program := "ytgoefodemjelaaa", sum := "f9a7d2691dfc93270b6809de2b6ef837322a4db45ee729eebc1fbb4286be7b15", func := "loop.example/g01154/laws.FnExactSeriesOfFreeModule", spec := "fnExactSeriesOfFreeModule", recurses := true, apart := false }
def FnExactSeriesOfFreeModuleSaid : Prop := fnExactSeriesOfFreeModuleRow.holds Try.pinned (OpenSpec.ofChange fnExactSeriesOfFreeModuleSpec)

/-- ITS FALSE NEIGHBOUR: 'it returns false'. Refute it at one input. -/
def fnExactSeriesOfFreeModuleWrong : ChangeSpec := { name := "fnExactSeriesOfFreeModule", fn := fun _ => fun
  | [d1, d2] => { results := [.lit (.bool false)], args := [d1, d2] }
  | _ => none }
def FnExactSeriesOfFreeModuleWrongFalsely : Prop := fnExactSeriesOfFreeModuleRow.holds Try.pinned (OpenSpec.ofChange fnExactSeriesOfFreeModuleWrong)

/-- 'laws.FnExactFreeUnstableCounts': WHATEVER THE INPUT: true; the input reads as it did. -/
def fnExactFreeUnstableCountsSpec : ChangeSpec := { name := "fnExactFreeUnstableCounts", fn := fun _ => fun
  | [d1, d2] => { results := [.lit (.bool true)], args := [d1, d2] }
  | _ => none }
def fnExactFreeUnstableCountsRow : OpenClaim := { program := "ytgoefodemjelaaa", sum := "f9a7d2691dfc93270b6809de2b6ef837322a4db45ee729eebc1fbb4286be7b15", func := "loop.example/g01154/laws.FnExactFreeUnstableCounts", spec := "fnExactFreeUnstableCounts", recurses := true, apart := false }
def FnExactFreeUnstableCountsSaid : Prop := fnExactFreeUnstableCountsRow.holds Try.pinned (OpenSpec.ofChange fnExactFreeUnstableCountsSpec)

/-- ITS FALSE NEIGHBOUR: 'it returns false'. Refute it at one input. -/
def fnExactFreeUnstableCountsWrong : ChangeSpec := { name := "fnExactFreeUnstableCounts", fn := fun _ => fun
  | [d1, d2] => { results := [.lit (.bool false)], args := [d1, d2] }
  | _ => none }
def FnExactFreeUnstableCountsWrongFalsely : Prop := fnExactFreeUnstableCountsRow.holds Try.pinned (OpenSpec.ofChange fnExactFreeUnstableCountsWrong)

/-- 'laws.FnExactEilenbergCounts': WHATEVER THE INPUT: true; the input reads as it did. -/
def fnExactEilenbergCountsSpec : ChangeSpec := { name := "fnExactEilenbergCounts", fn := fun _ => fun
  | [d1, d2] => { results := [.lit (.bool true)], args := [d1, d2] }
  | _ => none }
def fnExactEilenbergCountsRow : OpenClaim := { program := "ytgoefodemjelaaa", sum := "f9a7d2691dfc93270b6809de2b6ef837322a4db45ee729eebc1fbb4286be7b15", func := "loop.example/g01154/laws.FnExactEilenbergCounts", spec := "fnExactEilenbergCounts", recurses := true, apart := false }
def FnExactEilenbergCountsSaid : Prop := fnExactEilenbergCountsRow.holds Try.pinned (OpenSpec.ofChange fnExactEilenbergCountsSpec)

/-- ITS FALSE NEIGHBOUR: 'it returns false'. Refute it at one input. -/
def fnExactEilenbergCountsWrong : ChangeSpec := { name := "fnExactEilenbergCounts", fn := fun _ => fun
  | [d1, d2] => { results := [.lit (.bool false)], args := [d1, d2] }
  | _ => none }
def FnExactEilenbergCountsWrongFalsely : Prop := fnExactEilenbergCountsRow.holds Try.pinned (OpenSpec.ofChange fnExactEilenbergCountsWrong)

/-- 'laws.FnExactSeriesOfFreeAlgebra': WHATEVER THE INPUT: true; the input reads as it did. -/
def fnExactSeriesOfFreeAlgebraSpec : ChangeSpec := { name := "fnExactSeriesOfFreeAlgebra", fn := fun _ => fun
  | [d1, d2] => { results := [.lit (.bool true)], args := [d1, d2] }
  | _ => none }
def fnExactSeriesOfFreeAlgebraRow : OpenClaim := { program := "ytgoefodemjelaaa", sum := "f9a7d2691dfc93270b6809de2b6ef837322a4db45ee729eebc1fbb4286be7b15", func := "loop.example/g01154/laws.FnExactSeriesOfFreeAlgebra", spec := "fnExactSeriesOfFreeAlgebra", unfollowed := true, recurses := true, apart := false }
def FnExactSeriesOfFreeAlgebraSaid : Prop := fnExactSeriesOfFreeAlgebraRow.holds Try.pinned (OpenSpec.ofChange fnExactSeriesOfFreeAlgebraSpec)

/-- ITS FALSE NEIGHBOUR: 'it returns false'. Refute it at one input. -/
def fnExactSeriesOfFreeAlgebraWrong : ChangeSpec := { name := "fnExactSeriesOfFreeAlgebra", fn := fun _ => fun
  | [d1, d2] => { results := [.lit (.bool false)], args := [d1, d2] }
  | _ => none }
def FnExactSeriesOfFreeAlgebraWrongFalsely : Prop := fnExactSeriesOfFreeAlgebraRow.holds Try.pinned (OpenSpec.ofChange fnExactSeriesOfFreeAlgebraWrong)

/- THE SECOND FORM. 'bulk': how many values and letters a reading holds, each counted each time it is reached (what is shared counts as often as it is met; a slice's spare places count too). A statement '..UptoSaid' is the law's where the arguments, and the package variables that the reading takes, are together of bulk at most 1048576: NARROWER than '..Said'. Prove '..Said' where nothing that the law and all that it calls make is longer than what came in: it says more and counts as full. Else prove '..UptoSaid'. A law counts once. -/
mutual
def uptoBulk {H : Type} : DataW H → Nat
  | .lit (.string bytes) => bytes.length + 1
  | .lit _ => 1
  | .nil => 1
  | .ptr d => uptoBulk d + 1
  | .slice elems spare => uptoBulkAll elems + uptoBulkAll spare + 1
  | .agg parts => uptoBulkAll parts + 1
  | .iface _ d => uptoBulk d + 1
  | .map entries => uptoBulkEntries entries + 1
  | .held _ => 1
def uptoBulkAll {H : Type} : List (DataW H) → Nat
  | [] => 0
  | d :: r => uptoBulk d + uptoBulkAll r
def uptoBulkEntries {H : Type} : List (Lit × DataW H) → Nat
  | [] => 0
  | x :: r => uptoBulkEntry x + uptoBulkEntries r
def uptoBulkEntry {H : Type} : Lit × DataW H → Nat
  | (.string bytes, d) => bytes.length + uptoBulk d + 1
  | (_, d) => uptoBulk d + 1
 end
def uptoSmall : (H : Type) → List (DataW H) → Bool := fun _ ds => decide (uptoBulkAll ds ≤ 1048576)
def OpenSpec.upto (s : _root_.Go.ChangeSpec) : _root_.Go.OpenSpec := { _root_.Go.OpenSpec.ofChange s with cond := some uptoSmall }

/-- 'laws.FnExactIsNonnegative', WHERE WHAT IT READS IS OF BULK AT MOST 1048576: true; the input reads as it did. -/
def fnExactIsNonnegativeUptoRow : OpenClaim := { program := "ytgoefodemjelaaa", sum := "f9a7d2691dfc93270b6809de2b6ef837322a4db45ee729eebc1fbb4286be7b15", func := "loop.example/g01154/laws.FnExactIsNonnegative", spec := "fnExactIsNonnegative", unfollowed := true, recurses := true, apart := false, narrowed := true }
def FnExactIsNonnegativeUptoSaid : Prop := fnExactIsNonnegativeUptoRow.holds Try.pinned (OpenSpec.upto fnExactIsNonnegativeSpec)

/-- 'laws.FnExactSeriesOfAlgebra', WHERE WHAT IT READS IS OF BULK AT MOST 1048576: true; the input reads as it did. -/
def fnExactSeriesOfAlgebraUptoRow : OpenClaim := { program := "ytgoefodemjelaaa", sum := "f9a7d2691dfc93270b6809de2b6ef837322a4db45ee729eebc1fbb4286be7b15", func := "loop.example/g01154/laws.FnExactSeriesOfAlgebra", spec := "fnExactSeriesOfAlgebra", unfollowed := true, recurses := true, apart := false, narrowed := true }
def FnExactSeriesOfAlgebraUptoSaid : Prop := fnExactSeriesOfAlgebraUptoRow.holds Try.pinned (OpenSpec.upto fnExactSeriesOfAlgebraSpec)

/-- 'laws.FnExactShiftSeries', WHERE WHAT IT READS IS OF BULK AT MOST 1048576: true; the input reads as it did. -/
def fnExactShiftSeriesUptoRow : OpenClaim := { program := "ytgoefodemjelaaa", sum := "f9a7d2691dfc93270b6809de2b6ef837322a4db45ee729eebc1fbb4286be7b15", func := "loop.example/g01154/laws.FnExactShiftSeries", spec := "fnExactShiftSeries", unfollowed := true, recurses := true, apart := false, narrowed := true }
def FnExactShiftSeriesUptoSaid : Prop := fnExactShiftSeriesUptoRow.holds Try.pinned (OpenSpec.upto fnExactShiftSeriesSpec)

/-- 'laws.FnExactLambdaBasis', WHERE WHAT IT READS IS OF BULK AT MOST 1048576: true; the input reads as it did. -/
def fnExactLambdaBasisUptoRow : OpenClaim := { program := "ytgoefodemjelaaa", sum := "f9a7d2691dfc93270b6809de2b6ef837322a4db45ee729eebc1fbb4286be7b15", func := "loop.example/g01154/laws.FnExactLambdaBasis", spec := "fnExactLambdaBasis", recurses := true, apart := false, narrowed := true }
def FnExactLambdaBasisUptoSaid : Prop := fnExactLambdaBasisUptoRow.holds Try.pinned (OpenSpec.upto fnExactLambdaBasisSpec)

/-- 'laws.FnExactSphereBasis', WHERE WHAT IT READS IS OF BULK AT MOST 1048576: true; the input reads as it did. -/
def fnExactSphereBasisUptoRow : OpenClaim := { program := "ytgoefodemjelaaa", sum := "f9a7d2691dfc93270b6809de2b6ef837322a4db45ee729eebc1fbb4286be7b15", func := "loop.example/g01154/laws.FnExactSphereBasis", spec := "fnExactSphereBasis", recurses := true, apart := false, narrowed := true }
def FnExactSphereBasisUptoSaid : Prop := fnExactSphereBasisUptoRow.holds Try.pinned (OpenSpec.upto fnExactSphereBasisSpec)

/-- 'laws.FnExactSumsOfSeries', WHERE WHAT IT READS IS OF BULK AT MOST 1048576: true; the input reads as it did. -/
def fnExactSumsOfSeriesUptoRow : OpenClaim := { program := "ytgoefodemjelaaa", sum := "f9a7d2691dfc93270b6809de2b6ef837322a4db45ee729eebc1fbb4286be7b15", func := "loop.example/g01154/laws.FnExactSumsOfSeries", spec := "fnExactSumsOfSeries", unfollowed := true, recurses := true, apart := false, narrowed := true }
def FnExactSumsOfSeriesUptoSaid : Prop := fnExactSumsOfSeriesUptoRow.holds Try.pinned (OpenSpec.upto fnExactSumsOfSeriesSpec)

/-- 'laws.FnExactSeriesOfPolynomials', WHERE WHAT IT READS IS OF BULK AT MOST 1048576: true; the input reads as it did. -/
def fnExactSeriesOfPolynomialsUptoRow : OpenClaim := { program := "ytgoefodemjelaaa", sum := "f9a7d2691dfc93270b6809de2b6ef837322a4db45ee729eebc1fbb4286be7b15", func := "loop.example/g01154/laws.FnExactSeriesOfPolynomials", spec := "fnExactSeriesOfPolynomials", unfollowed := true, recurses := true, apart := false, narrowed := true }
def FnExactSeriesOfPolynomialsUptoSaid : Prop := fnExactSeriesOfPolynomialsUptoRow.holds Try.pinned (OpenSpec.upto fnExactSeriesOfPolynomialsSpec)

/-- 'laws.FnExactSeriesOfInvariants', WHERE WHAT IT READS IS OF BULK AT MOST 1048576: true; the input reads as it did. -/
def fnExactSeriesOfInvariantsUptoRow : OpenClaim := { program := "ytgoefodemjelaaa", sum := "f9a7d2691dfc93270b6809de2b6ef837322a4db45ee729eebc1fbb4286be7b15", func := "loop.example/g01154/laws.FnExactSeriesOfInvariants", spec := "fnExactSeriesOfInvariants", unfollowed := true, recurses := true, apart := false, narrowed := true }
def FnExactSeriesOfInvariantsUptoSaid : Prop := fnExactSeriesOfInvariantsUptoRow.holds Try.pinned (OpenSpec.upto fnExactSeriesOfInvariantsSpec)

/-- 'laws.FnExactSeriesOfFreeModule', WHERE WHAT IT READS IS OF BULK AT MOST 1048576: true; the input reads as it did. -/
def fnExactSeriesOfFreeModuleUptoRow : OpenClaim := { program := "ytgoefodemjelaaa", sum := "f9a7d2691dfc93270b6809de2b6ef837322a4db45ee729eebc1fbb4286be7b15", func := "loop.example/g01154/laws.FnExactSeriesOfFreeModule", spec := "fnExactSeriesOfFreeModule", recurses := true, apart := false, narrowed := true }
def FnExactSeriesOfFreeModuleUptoSaid : Prop := fnExactSeriesOfFreeModuleUptoRow.holds Try.pinned (OpenSpec.upto fnExactSeriesOfFreeModuleSpec)

/-- 'laws.FnExactFreeUnstableCounts', WHERE WHAT IT READS IS OF BULK AT MOST 1048576: true; the input reads as it did. -/
def fnExactFreeUnstableCountsUptoRow : OpenClaim := { program := "ytgoefodemjelaaa", sum := "f9a7d2691dfc93270b6809de2b6ef837322a4db45ee729eebc1fbb4286be7b15", func := "loop.example/g01154/laws.FnExactFreeUnstableCounts", spec := "fnExactFreeUnstableCounts", recurses := true, apart := false, narrowed := true }
def FnExactFreeUnstableCountsUptoSaid : Prop := fnExactFreeUnstableCountsUptoRow.holds Try.pinned (OpenSpec.upto fnExactFreeUnstableCountsSpec)

/-- 'laws.FnExactEilenbergCounts', WHERE WHAT IT READS IS OF BULK AT MOST 1048576: true; the input reads as it did. -/
def fnExactEilenbergCountsUptoRow : OpenClaim := { program := "ytgoefodemjelaaa", sum := "f9a7d2691dfc93270b6809de2b6ef837322a4db45ee729eebc1fbb4286be7b15", func := "loop.example/g01154/laws.FnExactEilenbergCounts", spec := "fnExactEilenbergCounts", recurses := true, apart := false, narrowed := true }
def FnExactEilenbergCountsUptoSaid : Prop := fnExactEilenbergCountsUptoRow.holds Try.pinned (OpenSpec.upto fnExactEilenbergCountsSpec)

/-- 'laws.FnExactSeriesOfFreeAlgebra', WHERE WHAT IT READS IS OF BULK AT MOST 1048576: true; the input reads as it did. -/
def fnExactSeriesOfFreeAlgebraUptoRow : OpenClaim := { program := "ytgoefodemjelaaa", sum := "f9a7d2691dfc93270b6809de2b6ef837322a4db45ee729eebc1fbb4286be7b15", func := "loop.example/g01154/laws.FnExactSeriesOfFreeAlgebra", spec := "fnExactSeriesOfFreeAlgebra", unfollowed := true, recurses := true, apart := false, narrowed := true }
def FnExactSeriesOfFreeAlgebraUptoSaid : Prop := fnExactSeriesOfFreeAlgebraUptoRow.holds Try.pinned (OpenSpec.upto fnExactSeriesOfFreeAlgebraSpec)

end Rows
end Go.Proofs.Ytgoefodemjelaaa
