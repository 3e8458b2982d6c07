/-
  No cell of these rows narrows 'for every input' (looked for: loops, veiled, ifaces, maps, wideKeys, modest, calm, conditions, laid).
  DERIVED. THE GIVEN ROWS OF THIS SEAT. 10 by the template 'for every input the law returns true; each argument reads behind the call as it read before'; 0 by the template 'total and deterministic' (their statements: YtejlkobieohgfaaTotals.lean).
  GIVEN WITH THE SEED: the statements are not yours to turn. If you find one false, say at which input.
  Laid BY PROGRAM, IN A SANDBOX (cutbox-rows.mjs): the forced cells as the released guide's own fill.sh prints them over the translation 4ef70c176dd43a63… (all of the seat's roots in one cut). By AI agents, Wed Nov 11 2026. No macro, syntax, notation, axiom, sorry.
-/
import Derived.Test.YtejlkobieohgfaaChecked
import GoSem.Claim
import GoSem.ClaimJoined
import GoSem.ClaimMapViews
import Derived.JoinedTies
import Derived.KernelRfl
namespace Go.Proofs.Ytejlkobieohgfaa
/- THE CELL 'sum', in the pinned program and in every row, IS THE sha256 OF THE DUMP (.gsa) THAT YtejlkobieohgfaaProg.lean LOADS. Nothing in Lean hashes anything: it is a label: what it is worth is what the hold of that sum in a sandbox is worth. -/
noncomputable def Try.pinned : Pinned := { name := "ytejlkobieohgfaa", sum := "4ef70c176dd43a63595c0cec4490f0e915d8caa9488ad8e7de9e1ab5c575f7d4", checked := Try.checked }
namespace Rows
def none {H : Type} : Left H := { results := [], args := [] }

/-- 'laws.FnExactNewDesk': WHATEVER THE INPUT: true; the input reads as it did. -/
def fnExactNewDeskSpec : ChangeSpec := { name := "fnExactNewDesk", fn := fun _ => fun
  | [] => { results := [.lit (.bool true)], args := [] }
  | _ => none }
def fnExactNewDeskRow : OpenClaim := { program := "ytejlkobieohgfaa", sum := "4ef70c176dd43a63595c0cec4490f0e915d8caa9488ad8e7de9e1ab5c575f7d4", func := "loop.example/g01154/laws.FnExactNewDesk", spec := "fnExactNewDesk", unfollowed := true, recurses := true, apart := false }
def FnExactNewDeskSaid : Prop := fnExactNewDeskRow.holds Try.pinned (OpenSpec.ofChange fnExactNewDeskSpec)

/-- ITS FALSE NEIGHBOUR: 'it returns false'. Refute it at one input. -/
def fnExactNewDeskWrong : ChangeSpec := { name := "fnExactNewDesk", fn := fun _ => fun
  | [] => { results := [.lit (.bool false)], args := [] }
  | _ => none }
def FnExactNewDeskWrongFalsely : Prop := fnExactNewDeskRow.holds Try.pinned (OpenSpec.ofChange fnExactNewDeskWrong)

/-- 'laws.FnExactDegreeOfPoly': WHATEVER THE INPUT: true; the input reads as it did. -/
def fnExactDegreeOfPolySpec : ChangeSpec := { name := "fnExactDegreeOfPoly", fn := fun _ => fun
  | [d] => { results := [.lit (.bool true)], args := [d] }
  | _ => none }
def fnExactDegreeOfPolyRow : OpenClaim := { program := "ytejlkobieohgfaa", sum := "4ef70c176dd43a63595c0cec4490f0e915d8caa9488ad8e7de9e1ab5c575f7d4", func := "loop.example/g01154/laws.FnExactDegreeOfPoly", spec := "fnExactDegreeOfPoly", unfollowed := true, recurses := true, apart := false }
def FnExactDegreeOfPolySaid : Prop := fnExactDegreeOfPolyRow.holds Try.pinned (OpenSpec.ofChange fnExactDegreeOfPolySpec)

/-- ITS FALSE NEIGHBOUR: 'it returns false'. Refute it at one input. -/
def fnExactDegreeOfPolyWrong : ChangeSpec := { name := "fnExactDegreeOfPoly", fn := fun _ => fun
  | [d] => { results := [.lit (.bool false)], args := [d] }
  | _ => none }
def FnExactDegreeOfPolyWrongFalsely : Prop := fnExactDegreeOfPolyRow.holds Try.pinned (OpenSpec.ofChange fnExactDegreeOfPolyWrong)

/-- 'laws.FnExactKamekoUp': WHATEVER THE INPUT: true; the input reads as it did. -/
def fnExactKamekoUpSpec : ChangeSpec := { name := "fnExactKamekoUp", fn := fun _ => fun
  | [d] => { results := [.lit (.bool true)], args := [d] }
  | _ => none }
def fnExactKamekoUpRow : OpenClaim := { program := "ytejlkobieohgfaa", sum := "4ef70c176dd43a63595c0cec4490f0e915d8caa9488ad8e7de9e1ab5c575f7d4", func := "loop.example/g01154/laws.FnExactKamekoUp", spec := "fnExactKamekoUp", unfollowed := true, recurses := true, apart := false }
def FnExactKamekoUpSaid : Prop := fnExactKamekoUpRow.holds Try.pinned (OpenSpec.ofChange fnExactKamekoUpSpec)

/-- ITS FALSE NEIGHBOUR: 'it returns false'. Refute it at one input. -/
def fnExactKamekoUpWrong : ChangeSpec := { name := "fnExactKamekoUp", fn := fun _ => fun
  | [d] => { results := [.lit (.bool false)], args := [d] }
  | _ => none }
def FnExactKamekoUpWrongFalsely : Prop := fnExactKamekoUpRow.holds Try.pinned (OpenSpec.ofChange fnExactKamekoUpWrong)

/-- 'laws.FnExactAddPolys': WHATEVER THE INPUT: true; the input reads as it did. -/
def fnExactAddPolysSpec : ChangeSpec := { name := "fnExactAddPolys", fn := fun _ => fun
  | [d1, d2] => { results := [.lit (.bool true)], args := [d1, d2] }
  | _ => none }
def fnExactAddPolysRow : OpenClaim := { program := "ytejlkobieohgfaa", sum := "4ef70c176dd43a63595c0cec4490f0e915d8caa9488ad8e7de9e1ab5c575f7d4", func := "loop.example/g01154/laws.FnExactAddPolys", spec := "fnExactAddPolys", unfollowed := true, recurses := true, apart := false }
def FnExactAddPolysSaid : Prop := fnExactAddPolysRow.holds Try.pinned (OpenSpec.ofChange fnExactAddPolysSpec)

/-- ITS FALSE NEIGHBOUR: 'it returns false'. Refute it at one input. -/
def fnExactAddPolysWrong : ChangeSpec := { name := "fnExactAddPolys", fn := fun _ => fun
  | [d1, d2] => { results := [.lit (.bool false)], args := [d1, d2] }
  | _ => none }
def FnExactAddPolysWrongFalsely : Prop := fnExactAddPolysRow.holds Try.pinned (OpenSpec.ofChange fnExactAddPolysWrong)

/-- 'laws.FnExactMultiplyPolys': WHATEVER THE INPUT: true; the input reads as it did. -/
def fnExactMultiplyPolysSpec : ChangeSpec := { name := "fnExactMultiplyPolys", fn := fun _ => fun
  | [d1, d2] => { results := [.lit (.bool true)], args := [d1, d2] }
  | _ => none }
def fnExactMultiplyPolysRow : OpenClaim := { program := "ytejlkobieohgfaa", sum := "4ef70c176dd43a63595c0cec4490f0e915d8caa9488ad8e7de9e1ab5c575f7d4", func := "loop.example/g01154/laws.FnExactMultiplyPolys", spec := "fnExactMultiplyPolys", unfollowed := true, recurses := true, apart := false }
def FnExactMultiplyPolysSaid : Prop := fnExactMultiplyPolysRow.holds Try.pinned (OpenSpec.ofChange fnExactMultiplyPolysSpec)

/-- ITS FALSE NEIGHBOUR: 'it returns false'. Refute it at one input. -/
def fnExactMultiplyPolysWrong : ChangeSpec := { name := "fnExactMultiplyPolys", fn := fun _ => fun
  | [d1, d2] => { results := [.lit (.bool false)], args := [d1, d2] }
  | _ => none }
def FnExactMultiplyPolysWrongFalsely : Prop := fnExactMultiplyPolysRow.holds Try.pinned (OpenSpec.ofChange fnExactMultiplyPolysWrong)

/-- 'laws.FnExactSquareOn': WHATEVER THE INPUT: true; the input reads as it did. -/
def fnExactSquareOnSpec : ChangeSpec := { name := "fnExactSquareOn", fn := fun _ => fun
  | [d1, d2] => { results := [.lit (.bool true)], args := [d1, d2] }
  | _ => none }
def fnExactSquareOnRow : OpenClaim := { program := "ytejlkobieohgfaa", sum := "4ef70c176dd43a63595c0cec4490f0e915d8caa9488ad8e7de9e1ab5c575f7d4", func := "loop.example/g01154/laws.FnExactSquareOn", spec := "fnExactSquareOn", unfollowed := true, recurses := true, apart := false }
def FnExactSquareOnSaid : Prop := fnExactSquareOnRow.holds Try.pinned (OpenSpec.ofChange fnExactSquareOnSpec)

/-- ITS FALSE NEIGHBOUR: 'it returns false'. Refute it at one input. -/
def fnExactSquareOnWrong : ChangeSpec := { name := "fnExactSquareOn", fn := fun _ => fun
  | [d1, d2] => { results := [.lit (.bool false)], args := [d1, d2] }
  | _ => none }
def FnExactSquareOnWrongFalsely : Prop := fnExactSquareOnRow.holds Try.pinned (OpenSpec.ofChange fnExactSquareOnWrong)

/-- 'laws.FnExactTotalSquare': WHATEVER THE INPUT: true; the input reads as it did. -/
def fnExactTotalSquareSpec : ChangeSpec := { name := "fnExactTotalSquare", fn := fun _ => fun
  | [d] => { results := [.lit (.bool true)], args := [d] }
  | _ => none }
def fnExactTotalSquareRow : OpenClaim := { program := "ytejlkobieohgfaa", sum := "4ef70c176dd43a63595c0cec4490f0e915d8caa9488ad8e7de9e1ab5c575f7d4", func := "loop.example/g01154/laws.FnExactTotalSquare", spec := "fnExactTotalSquare", unfollowed := true, recurses := true, apart := false }
def FnExactTotalSquareSaid : Prop := fnExactTotalSquareRow.holds Try.pinned (OpenSpec.ofChange fnExactTotalSquareSpec)

/-- ITS FALSE NEIGHBOUR: 'it returns false'. Refute it at one input. -/
def fnExactTotalSquareWrong : ChangeSpec := { name := "fnExactTotalSquare", fn := fun _ => fun
  | [d] => { results := [.lit (.bool false)], args := [d] }
  | _ => none }
def FnExactTotalSquareWrongFalsely : Prop := fnExactTotalSquareRow.holds Try.pinned (OpenSpec.ofChange fnExactTotalSquareWrong)

/-- 'laws.FnExactActSquares': WHATEVER THE INPUT: true; the input reads as it did. -/
def fnExactActSquaresSpec : ChangeSpec := { name := "fnExactActSquares", fn := fun _ => fun
  | [d1, d2] => { results := [.lit (.bool true)], args := [d1, d2] }
  | _ => none }
def fnExactActSquaresRow : OpenClaim := { program := "ytejlkobieohgfaa", sum := "4ef70c176dd43a63595c0cec4490f0e915d8caa9488ad8e7de9e1ab5c575f7d4", func := "loop.example/g01154/laws.FnExactActSquares", spec := "fnExactActSquares", unfollowed := true, recurses := true, apart := false }
def FnExactActSquaresSaid : Prop := fnExactActSquaresRow.holds Try.pinned (OpenSpec.ofChange fnExactActSquaresSpec)

/-- ITS FALSE NEIGHBOUR: 'it returns false'. Refute it at one input. -/
def fnExactActSquaresWrong : ChangeSpec := { name := "fnExactActSquares", fn := fun _ => fun
  | [d1, d2] => { results := [.lit (.bool false)], args := [d1, d2] }
  | _ => none }
def FnExactActSquaresWrongFalsely : Prop := fnExactActSquaresRow.holds Try.pinned (OpenSpec.ofChange fnExactActSquaresWrong)

/-- 'laws.FnExactActMilnor': WHATEVER THE INPUT: true; the input reads as it did. -/
def fnExactActMilnorSpec : ChangeSpec := { name := "fnExactActMilnor", fn := fun _ => fun
  | [d1, d2] => { results := [.lit (.bool true)], args := [d1, d2] }
  | _ => none }
def fnExactActMilnorRow : OpenClaim := { program := "ytejlkobieohgfaa", sum := "4ef70c176dd43a63595c0cec4490f0e915d8caa9488ad8e7de9e1ab5c575f7d4", func := "loop.example/g01154/laws.FnExactActMilnor", spec := "fnExactActMilnor", unfollowed := true, recurses := true, apart := false }
def FnExactActMilnorSaid : Prop := fnExactActMilnorRow.holds Try.pinned (OpenSpec.ofChange fnExactActMilnorSpec)

/-- ITS FALSE NEIGHBOUR: 'it returns false'. Refute it at one input. -/
def fnExactActMilnorWrong : ChangeSpec := { name := "fnExactActMilnor", fn := fun _ => fun
  | [d1, d2] => { results := [.lit (.bool false)], args := [d1, d2] }
  | _ => none }
def FnExactActMilnorWrongFalsely : Prop := fnExactActMilnorRow.holds Try.pinned (OpenSpec.ofChange fnExactActMilnorWrong)

/-- 'laws.FnKameko': WHATEVER THE INPUT: true; the input reads as it did. -/
def fnKamekoSpec : ChangeSpec := { name := "fnKameko", fn := fun _ => fun
  | [d] => { results := [.lit (.bool true)], args := [d] }
  | _ => none }
def fnKamekoRow : OpenClaim := { program := "ytejlkobieohgfaa", sum := "4ef70c176dd43a63595c0cec4490f0e915d8caa9488ad8e7de9e1ab5c575f7d4", func := "loop.example/g01154/laws.FnKameko", spec := "fnKameko", unfollowed := true, recurses := true, apart := false }
def FnKamekoSaid : Prop := fnKamekoRow.holds Try.pinned (OpenSpec.ofChange fnKamekoSpec)

/-- ITS FALSE NEIGHBOUR: 'it returns false'. Refute it at one input. -/
def fnKamekoWrong : ChangeSpec := { name := "fnKameko", fn := fun _ => fun
  | [d] => { results := [.lit (.bool false)], args := [d] }
  | _ => none }
def FnKamekoWrongFalsely : Prop := fnKamekoRow.holds Try.pinned (OpenSpec.ofChange fnKamekoWrong)

/- THE SECOND FORM. 'bulk': how many values and letters a reading holds, each counted each time it is reached (what is shared counts as often as it is met; a slice's spare places count too). A statement '..UptoSaid' is the law's where the arguments, and the package variables that the reading takes, are together of bulk at most 1048576: NARROWER than '..Said'. Prove '..Said' where nothing that the law and all that it calls make is longer than what came in: it says more and counts as full. Else prove '..UptoSaid'. A law counts once. -/
mutual
def uptoBulk {H : Type} : DataW H → Nat
  | .lit (.string bytes) => bytes.length + 1
  | .lit _ => 1
  | .nil => 1
  | .ptr d => uptoBulk d + 1
  | .slice elems spare => uptoBulkAll elems + uptoBulkAll spare + 1
  | .agg parts => uptoBulkAll parts + 1
  | .iface _ d => uptoBulk d + 1
  | .map entries => uptoBulkEntries entries + 1
  | .held _ => 1
def uptoBulkAll {H : Type} : List (DataW H) → Nat
  | [] => 0
  | d :: r => uptoBulk d + uptoBulkAll r
def uptoBulkEntries {H : Type} : List (Lit × DataW H) → Nat
  | [] => 0
  | x :: r => uptoBulkEntry x + uptoBulkEntries r
def uptoBulkEntry {H : Type} : Lit × DataW H → Nat
  | (.string bytes, d) => bytes.length + uptoBulk d + 1
  | (_, d) => uptoBulk d + 1
 end
def uptoSmall : (H : Type) → List (DataW H) → Bool := fun _ ds => decide (uptoBulkAll ds ≤ 1048576)
def OpenSpec.upto (s : _root_.Go.ChangeSpec) : _root_.Go.OpenSpec := { _root_.Go.OpenSpec.ofChange s with cond := some uptoSmall }

/-- 'laws.FnExactNewDesk', WHERE WHAT IT READS IS OF BULK AT MOST 1048576: true; the input reads as it did. -/
def fnExactNewDeskUptoRow : OpenClaim := { program := "ytejlkobieohgfaa", sum := "4ef70c176dd43a63595c0cec4490f0e915d8caa9488ad8e7de9e1ab5c575f7d4", func := "loop.example/g01154/laws.FnExactNewDesk", spec := "fnExactNewDesk", unfollowed := true, recurses := true, apart := false, narrowed := true }
def FnExactNewDeskUptoSaid : Prop := fnExactNewDeskUptoRow.holds Try.pinned (OpenSpec.upto fnExactNewDeskSpec)

/-- 'laws.FnExactDegreeOfPoly', WHERE WHAT IT READS IS OF BULK AT MOST 1048576: true; the input reads as it did. -/
def fnExactDegreeOfPolyUptoRow : OpenClaim := { program := "ytejlkobieohgfaa", sum := "4ef70c176dd43a63595c0cec4490f0e915d8caa9488ad8e7de9e1ab5c575f7d4", func := "loop.example/g01154/laws.FnExactDegreeOfPoly", spec := "fnExactDegreeOfPoly", unfollowed := true, recurses := true, apart := false, narrowed := true }
def FnExactDegreeOfPolyUptoSaid : Prop := fnExactDegreeOfPolyUptoRow.holds Try.pinned (OpenSpec.upto fnExactDegreeOfPolySpec)

/-- 'laws.FnExactKamekoUp', WHERE WHAT IT READS IS OF BULK AT MOST 1048576: true; the input reads as it did. -/
def fnExactKamekoUpUptoRow : OpenClaim := { program := "ytejlkobieohgfaa", sum := "4ef70c176dd43a63595c0cec4490f0e915d8caa9488ad8e7de9e1ab5c575f7d4", func := "loop.example/g01154/laws.FnExactKamekoUp", spec := "fnExactKamekoUp", unfollowed := true, recurses := true, apart := false, narrowed := true }
def FnExactKamekoUpUptoSaid : Prop := fnExactKamekoUpUptoRow.holds Try.pinned (OpenSpec.upto fnExactKamekoUpSpec)

/-- 'laws.FnExactAddPolys', WHERE WHAT IT READS IS OF BULK AT MOST 1048576: true; the input reads as it did. -/
def fnExactAddPolysUptoRow : OpenClaim := { program := "ytejlkobieohgfaa", sum := "4ef70c176dd43a63595c0cec4490f0e915d8caa9488ad8e7de9e1ab5c575f7d4", func := "loop.example/g01154/laws.FnExactAddPolys", spec := "fnExactAddPolys", unfollowed := true, recurses := true, apart := false, narrowed := true }
def FnExactAddPolysUptoSaid : Prop := fnExactAddPolysUptoRow.holds Try.pinned (OpenSpec.upto fnExactAddPolysSpec)

/-- 'laws.FnExactMultiplyPolys', WHERE WHAT IT READS IS OF BULK AT MOST 1048576: true; the input reads as it did. -/
def fnExactMultiplyPolysUptoRow : OpenClaim := { program := "ytejlkobieohgfaa", sum := "4ef70c176dd43a63595c0cec4490f0e915d8caa9488ad8e7de9e1ab5c575f7d4", func := "loop.example/g01154/laws.FnExactMultiplyPolys", spec := "fnExactMultiplyPolys", unfollowed := true, recurses := true, apart := false, narrowed := true }
def FnExactMultiplyPolysUptoSaid : Prop := fnExactMultiplyPolysUptoRow.holds Try.pinned (OpenSpec.upto fnExactMultiplyPolysSpec)

/-- 'laws.FnExactSquareOn', WHERE WHAT IT READS IS OF BULK AT MOST 1048576: true; the input reads as it did. -/
def fnExactSquareOnUptoRow : OpenClaim := { program := "ytejlkobieohgfaa", sum := "4ef70c176dd43a63595c0cec4490f0e915d8caa9488ad8e7de9e1ab5c575f7d4", func := "loop.example/g01154/laws.FnExactSquareOn", spec := "fnExactSquareOn", unfollowed := true, recurses := true, apart := false, narrowed := true }
def FnExactSquareOnUptoSaid : Prop := fnExactSquareOnUptoRow.holds Try.pinned (OpenSpec.upto fnExactSquareOnSpec)

/-- 'laws.FnExactTotalSquare', WHERE WHAT IT READS IS OF BULK AT MOST 1048576: true; the input reads as it did. -/
def fnExactTotalSquareUptoRow : OpenClaim := { program := "ytejlkobieohgfaa", sum := "4ef70c176dd43a63595c0cec4490f0e915d8caa9488ad8e7de9e1ab5c575f7d4", func := "loop.example/g01154/laws.FnExactTotalSquare", spec := "fnExactTotalSquare", unfollowed := true, recurses := true, apart := false, narrowed := true }
def FnExactTotalSquareUptoSaid : Prop := fnExactTotalSquareUptoRow.holds Try.pinned (OpenSpec.upto fnExactTotalSquareSpec)

/-- 'laws.FnExactActSquares', WHERE WHAT IT READS IS OF BULK AT MOST 1048576: true; the input reads as it did. -/
def fnExactActSquaresUptoRow : OpenClaim := { program := "ytejlkobieohgfaa", sum := "4ef70c176dd43a63595c0cec4490f0e915d8caa9488ad8e7de9e1ab5c575f7d4", func := "loop.example/g01154/laws.FnExactActSquares", spec := "fnExactActSquares", unfollowed := true, recurses := true, apart := false, narrowed := true }
def FnExactActSquaresUptoSaid : Prop := fnExactActSquaresUptoRow.holds Try.pinned (OpenSpec.upto fnExactActSquaresSpec)

/-- 'laws.FnExactActMilnor', WHERE WHAT IT READS IS OF BULK AT MOST 1048576: true; the input reads as it did. -/
def fnExactActMilnorUptoRow : OpenClaim := { program := "ytejlkobieohgfaa", sum := "4ef70c176dd43a63595c0cec4490f0e915d8caa9488ad8e7de9e1ab5c575f7d4", func := "loop.example/g01154/laws.FnExactActMilnor", spec := "fnExactActMilnor", unfollowed := true, recurses := true, apart := false, narrowed := true }
def FnExactActMilnorUptoSaid : Prop := fnExactActMilnorUptoRow.holds Try.pinned (OpenSpec.upto fnExactActMilnorSpec)

/-- 'laws.FnKameko', WHERE WHAT IT READS IS OF BULK AT MOST 1048576: true; the input reads as it did. -/
def fnKamekoUptoRow : OpenClaim := { program := "ytejlkobieohgfaa", sum := "4ef70c176dd43a63595c0cec4490f0e915d8caa9488ad8e7de9e1ab5c575f7d4", func := "loop.example/g01154/laws.FnKameko", spec := "fnKameko", unfollowed := true, recurses := true, apart := false, narrowed := true }
def FnKamekoUptoSaid : Prop := fnKamekoUptoRow.holds Try.pinned (OpenSpec.upto fnKamekoSpec)

end Rows
end Go.Proofs.Ytejlkobieohgfaa
