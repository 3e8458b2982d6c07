/-
  No cell of these rows narrows 'for every input' (looked for: loops, veiled, ifaces, maps, wideKeys, modest, calm, conditions, laid).
  DERIVED. THE GIVEN ROWS OF THIS SEAT. 5 by the template 'for every input the law returns true; each argument reads behind the call as it read before'; 0 by the template 'total and deterministic' (their statements: YthaokhjkibbplaaTotals.lean).
  GIVEN WITH THE SEED: the statements are not yours to turn. If you find one false, say at which input.
  Laid BY PROGRAM, IN A SANDBOX (cutbox-rows.mjs): the forced cells as the released guide's own fill.sh prints them over the translation b441327c3ebf0909… (all of the seat's roots in one cut). By AI agents, Wed Nov 11 2026. No macro, syntax, notation, axiom, sorry.
-/
import Derived.Test.YthaokhjkibbplaaChecked
import GoSem.Claim
import GoSem.ClaimJoined
import GoSem.ClaimMapViews
import Derived.JoinedTies
import Derived.KernelRfl
namespace Go.Proofs.Ythaokhjkibbplaa
/- THE CELL 'sum', in the pinned program and in every row, IS THE sha256 OF THE DUMP (.gsa) THAT YthaokhjkibbplaaProg.lean LOADS. Nothing in Lean hashes anything: it is a label: what it is worth is what the hold of that sum in a sandbox is worth. -/
noncomputable def Try.pinned : Pinned := { name := "ythaokhjkibbplaa", sum := "b441327c3ebf090946c8cbc315d7d2b746430188106e23a1f641d9c5760eb1bd", checked := Try.checked }
namespace Rows
def none {H : Type} : Left H := { results := [], args := [] }

/-- 'laws.FnExactIsLambda': WHATEVER THE INPUT: true; the input reads as it did. -/
def fnExactIsLambdaSpec : ChangeSpec := { name := "fnExactIsLambda", fn := fun _ => fun
  | [d] => { results := [.lit (.bool true)], args := [d] }
  | _ => none }
def fnExactIsLambdaRow : OpenClaim := { program := "ythaokhjkibbplaa", sum := "b441327c3ebf090946c8cbc315d7d2b746430188106e23a1f641d9c5760eb1bd", func := "loop.example/g01154/laws.FnExactIsLambda", spec := "fnExactIsLambda", unfollowed := true, recurses := true, apart := false }
def FnExactIsLambdaSaid : Prop := fnExactIsLambdaRow.holds Try.pinned (OpenSpec.ofChange fnExactIsLambdaSpec)

/-- ITS FALSE NEIGHBOUR: 'it returns false'. Refute it at one input. -/
def fnExactIsLambdaWrong : ChangeSpec := { name := "fnExactIsLambda", fn := fun _ => fun
  | [d] => { results := [.lit (.bool false)], args := [d] }
  | _ => none }
def FnExactIsLambdaWrongFalsely : Prop := fnExactIsLambdaRow.holds Try.pinned (OpenSpec.ofChange fnExactIsLambdaWrong)

/-- 'laws.FnExactAddLambda': WHATEVER THE INPUT: true; the input reads as it did. -/
def fnExactAddLambdaSpec : ChangeSpec := { name := "fnExactAddLambda", fn := fun _ => fun
  | [d1, d2] => { results := [.lit (.bool true)], args := [d1, d2] }
  | _ => none }
def fnExactAddLambdaRow : OpenClaim := { program := "ythaokhjkibbplaa", sum := "b441327c3ebf090946c8cbc315d7d2b746430188106e23a1f641d9c5760eb1bd", func := "loop.example/g01154/laws.FnExactAddLambda", spec := "fnExactAddLambda", unfollowed := true, recurses := true, apart := false }
def FnExactAddLambdaSaid : Prop := fnExactAddLambdaRow.holds Try.pinned (OpenSpec.ofChange fnExactAddLambdaSpec)

/-- ITS FALSE NEIGHBOUR: 'it returns false'. Refute it at one input. -/
def fnExactAddLambdaWrong : ChangeSpec := { name := "fnExactAddLambda", fn := fun _ => fun
  | [d1, d2] => { results := [.lit (.bool false)], args := [d1, d2] }
  | _ => none }
def FnExactAddLambdaWrongFalsely : Prop := fnExactAddLambdaRow.holds Try.pinned (OpenSpec.ofChange fnExactAddLambdaWrong)

/-- 'laws.FnExactLambdaForm': WHATEVER THE INPUT: true; the input reads as it did. -/
def fnExactLambdaFormSpec : ChangeSpec := { name := "fnExactLambdaForm", fn := fun _ => fun
  | [d] => { results := [.lit (.bool true)], args := [d] }
  | _ => none }
def fnExactLambdaFormRow : OpenClaim := { program := "ythaokhjkibbplaa", sum := "b441327c3ebf090946c8cbc315d7d2b746430188106e23a1f641d9c5760eb1bd", func := "loop.example/g01154/laws.FnExactLambdaForm", spec := "fnExactLambdaForm", unfollowed := true, recurses := true, apart := false }
def FnExactLambdaFormSaid : Prop := fnExactLambdaFormRow.holds Try.pinned (OpenSpec.ofChange fnExactLambdaFormSpec)

/-- ITS FALSE NEIGHBOUR: 'it returns false'. Refute it at one input. -/
def fnExactLambdaFormWrong : ChangeSpec := { name := "fnExactLambdaForm", fn := fun _ => fun
  | [d] => { results := [.lit (.bool false)], args := [d] }
  | _ => none }
def FnExactLambdaFormWrongFalsely : Prop := fnExactLambdaFormRow.holds Try.pinned (OpenSpec.ofChange fnExactLambdaFormWrong)

/-- 'laws.FnExactMultiplyLambda': WHATEVER THE INPUT: true; the input reads as it did. -/
def fnExactMultiplyLambdaSpec : ChangeSpec := { name := "fnExactMultiplyLambda", fn := fun _ => fun
  | [d1, d2] => { results := [.lit (.bool true)], args := [d1, d2] }
  | _ => none }
def fnExactMultiplyLambdaRow : OpenClaim := { program := "ythaokhjkibbplaa", sum := "b441327c3ebf090946c8cbc315d7d2b746430188106e23a1f641d9c5760eb1bd", func := "loop.example/g01154/laws.FnExactMultiplyLambda", spec := "fnExactMultiplyLambda", unfollowed := true, recurses := true, apart := false }
def FnExactMultiplyLambdaSaid : Prop := fnExactMultiplyLambdaRow.holds Try.pinned (OpenSpec.ofChange fnExactMultiplyLambdaSpec)

/-- ITS FALSE NEIGHBOUR: 'it returns false'. Refute it at one input. -/
def fnExactMultiplyLambdaWrong : ChangeSpec := { name := "fnExactMultiplyLambda", fn := fun _ => fun
  | [d1, d2] => { results := [.lit (.bool false)], args := [d1, d2] }
  | _ => none }
def FnExactMultiplyLambdaWrongFalsely : Prop := fnExactMultiplyLambdaRow.holds Try.pinned (OpenSpec.ofChange fnExactMultiplyLambdaWrong)

/-- 'laws.FnExactDifferentialOf': WHATEVER THE INPUT: true; the input reads as it did. -/
def fnExactDifferentialOfSpec : ChangeSpec := { name := "fnExactDifferentialOf", fn := fun _ => fun
  | [d] => { results := [.lit (.bool true)], args := [d] }
  | _ => none }
def fnExactDifferentialOfRow : OpenClaim := { program := "ythaokhjkibbplaa", sum := "b441327c3ebf090946c8cbc315d7d2b746430188106e23a1f641d9c5760eb1bd", func := "loop.example/g01154/laws.FnExactDifferentialOf", spec := "fnExactDifferentialOf", unfollowed := true, recurses := true, apart := false }
def FnExactDifferentialOfSaid : Prop := fnExactDifferentialOfRow.holds Try.pinned (OpenSpec.ofChange fnExactDifferentialOfSpec)

/-- ITS FALSE NEIGHBOUR: 'it returns false'. Refute it at one input. -/
def fnExactDifferentialOfWrong : ChangeSpec := { name := "fnExactDifferentialOf", fn := fun _ => fun
  | [d] => { results := [.lit (.bool false)], args := [d] }
  | _ => none }
def FnExactDifferentialOfWrongFalsely : Prop := fnExactDifferentialOfRow.holds Try.pinned (OpenSpec.ofChange fnExactDifferentialOfWrong)

/- THE SECOND FORM. 'bulk': how many values and letters a reading holds, each counted each time it is reached (what is shared counts as often as it is met; a slice's spare places count too). A statement '..UptoSaid' is the law's where the arguments, and the package variables that the reading takes, are together of bulk at most 1048576: NARROWER than '..Said'. Prove '..Said' where nothing that the law and all that it calls make is longer than what came in: it says more and counts as full. Else prove '..UptoSaid'. A law counts once. -/
mutual
def uptoBulk {H : Type} : DataW H → Nat
  | .lit (.string bytes) => bytes.length + 1
  | .lit _ => 1
  | .nil => 1
  | .ptr d => uptoBulk d + 1
  | .slice elems spare => uptoBulkAll elems + uptoBulkAll spare + 1
  | .agg parts => uptoBulkAll parts + 1
  | .iface _ d => uptoBulk d + 1
  | .map entries => uptoBulkEntries entries + 1
  | .held _ => 1
def uptoBulkAll {H : Type} : List (DataW H) → Nat
  | [] => 0
  | d :: r => uptoBulk d + uptoBulkAll r
def uptoBulkEntries {H : Type} : List (Lit × DataW H) → Nat
  | [] => 0
  | x :: r => uptoBulkEntry x + uptoBulkEntries r
def uptoBulkEntry {H : Type} : Lit × DataW H → Nat
  | (.string bytes, d) => bytes.length + uptoBulk d + 1
  | (_, d) => uptoBulk d + 1
 end
def uptoSmall : (H : Type) → List (DataW H) → Bool := fun _ ds => decide (uptoBulkAll ds ≤ 1048576)
def OpenSpec.upto (s : _root_.Go.ChangeSpec) : _root_.Go.OpenSpec := { _root_.Go.OpenSpec.ofChange s with cond := some uptoSmall }

/-- 'laws.FnExactIsLambda', WHERE WHAT IT READS IS OF BULK AT MOST 1048576: true; the input reads as it did. -/
def fnExactIsLambdaUptoRow : OpenClaim := { program := "ythaokhjkibbplaa", sum := "b441327c3ebf090946c8cbc315d7d2b746430188106e23a1f641d9c5760eb1bd", func := "loop.example/g01154/laws.FnExactIsLambda", spec := "fnExactIsLambda", unfollowed := true, recurses := true, apart := false, narrowed := true }
def FnExactIsLambdaUptoSaid : Prop := fnExactIsLambdaUptoRow.holds Try.pinned (OpenSpec.upto fnExactIsLambdaSpec)

/-- 'laws.FnExactAddLambda', WHERE WHAT IT READS IS OF BULK AT MOST 1048576: true; the input reads as it did. -/
def fnExactAddLambdaUptoRow : OpenClaim := { program := "ythaokhjkibbplaa", sum := "b441327c3ebf090946c8cbc315d7d2b746430188106e23a1f641d9c5760eb1bd", func := "loop.example/g01154/laws.FnExactAddLambda", spec := "fnExactAddLambda", unfollowed := true, recurses := true, apart := false, narrowed := true }
def FnExactAddLambdaUptoSaid : Prop := fnExactAddLambdaUptoRow.holds Try.pinned (OpenSpec.upto fnExactAddLambdaSpec)

/-- 'laws.FnExactLambdaForm', WHERE WHAT IT READS IS OF BULK AT MOST 1048576: true; the input reads as it did. -/
def fnExactLambdaFormUptoRow : OpenClaim := { program := "ythaokhjkibbplaa", sum := "b441327c3ebf090946c8cbc315d7d2b746430188106e23a1f641d9c5760eb1bd", func := "loop.example/g01154/laws.FnExactLambdaForm", spec := "fnExactLambdaForm", unfollowed := true, recurses := true, apart := false, narrowed := true }
def FnExactLambdaFormUptoSaid : Prop := fnExactLambdaFormUptoRow.holds Try.pinned (OpenSpec.upto fnExactLambdaFormSpec)

/-- 'laws.FnExactMultiplyLambda', WHERE WHAT IT READS IS OF BULK AT MOST 1048576: true; the input reads as it did. -/
def fnExactMultiplyLambdaUptoRow : OpenClaim := { program := "ythaokhjkibbplaa", sum := "b441327c3ebf090946c8cbc315d7d2b746430188106e23a1f641d9c5760eb1bd", func := "loop.example/g01154/laws.FnExactMultiplyLambda", spec := "fnExactMultiplyLambda", unfollowed := true, recurses := true, apart := false, narrowed := true }
def FnExactMultiplyLambdaUptoSaid : Prop := fnExactMultiplyLambdaUptoRow.holds Try.pinned (OpenSpec.upto fnExactMultiplyLambdaSpec)

/-- 'laws.FnExactDifferentialOf', WHERE WHAT IT READS IS OF BULK AT MOST 1048576: true; the input reads as it did. -/
def fnExactDifferentialOfUptoRow : OpenClaim := { program := "ythaokhjkibbplaa", sum := "b441327c3ebf090946c8cbc315d7d2b746430188106e23a1f641d9c5760eb1bd", func := "loop.example/g01154/laws.FnExactDifferentialOf", spec := "fnExactDifferentialOf", unfollowed := true, recurses := true, apart := false, narrowed := true }
def FnExactDifferentialOfUptoSaid : Prop := fnExactDifferentialOfUptoRow.holds Try.pinned (OpenSpec.upto fnExactDifferentialOfSpec)

end Rows
end Go.Proofs.Ythaokhjkibbplaa
