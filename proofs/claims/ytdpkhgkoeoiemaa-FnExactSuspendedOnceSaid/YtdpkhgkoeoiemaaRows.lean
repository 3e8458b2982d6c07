/-
  No cell of these rows narrows 'for every input' (looked for: loops, veiled, ifaces, maps, wideKeys, modest, calm, conditions, laid).
  DERIVED. THE GIVEN ROWS OF THIS SEAT. 3 by the template 'for every input the law returns true; each argument reads behind the call as it read before'; 0 by the template 'total and deterministic' (their statements: YtdpkhgkoeoiemaaTotals.lean).
  GIVEN WITH THE SEED: the statements are not yours to turn. If you find one false, say at which input.
  Laid BY PROGRAM, IN A SANDBOX (cutbox-rows.mjs): the forced cells as the released guide's own fill.sh prints them over the translation 3dada7be025d2597… (all of the seat's roots in one cut). By AI agents, Wed Nov 11 2026. No macro, syntax, notation, axiom, sorry.
-/
import Derived.Test.YtdpkhgkoeoiemaaChecked
import GoSem.Claim
import GoSem.ClaimJoined
import GoSem.ClaimMapViews
import Derived.JoinedTies
import Derived.KernelRfl
namespace Go.Proofs.Ytdpkhgkoeoiemaa
/- THE CELL 'sum', in the pinned program and in every row, IS THE sha256 OF THE DUMP (.gsa) THAT YtdpkhgkoeoiemaaProg.lean LOADS. Nothing in Lean hashes anything: it is a label: what it is worth is what the hold of that sum in a sandbox is worth. -/
noncomputable def Try.pinned : Pinned := { name := "ytdpkhgkoeoiemaa", sum := "3dada7be025d25976b48f5472e5983ed9b7df8bb8dd4eb7eadcd811b5e26846c", checked := Try.checked }
namespace Rows
def none {H : Type} : Left H := { results := [], args := [] }

/-- 'laws.FnExactIsUnstable': WHATEVER THE INPUT: true; the input reads as it did. -/
def fnExactIsUnstableSpec : ChangeSpec := { name := "fnExactIsUnstable", fn := fun _ => fun
  | [d] => { results := [.lit (.bool true)], args := [d] }
  | _ => none }
def fnExactIsUnstableRow : OpenClaim := { program := "ytdpkhgkoeoiemaa", sum := "3dada7be025d25976b48f5472e5983ed9b7df8bb8dd4eb7eadcd811b5e26846c", func := "loop.example/g01154/laws.FnExactIsUnstable", spec := "fnExactIsUnstable", unfollowed := true, recurses := true, apart := false }
def FnExactIsUnstableSaid : Prop := fnExactIsUnstableRow.holds Try.pinned (OpenSpec.ofChange fnExactIsUnstableSpec)

/-- ITS FALSE NEIGHBOUR: 'it returns false'. Refute it at one input. -/
def fnExactIsUnstableWrong : ChangeSpec := { name := "fnExactIsUnstable", fn := fun _ => fun
  | [d] => { results := [.lit (.bool false)], args := [d] }
  | _ => none }
def FnExactIsUnstableWrongFalsely : Prop := fnExactIsUnstableRow.holds Try.pinned (OpenSpec.ofChange fnExactIsUnstableWrong)

/-- 'laws.FnExactSuspendedOnce': WHATEVER THE INPUT: true; the input reads as it did. -/
def fnExactSuspendedOnceSpec : ChangeSpec := { name := "fnExactSuspendedOnce", fn := fun _ => fun
  | [d] => { results := [.lit (.bool true)], args := [d] }
  | _ => none }
def fnExactSuspendedOnceRow : OpenClaim := { program := "ytdpkhgkoeoiemaa", sum := "3dada7be025d25976b48f5472e5983ed9b7df8bb8dd4eb7eadcd811b5e26846c", func := "loop.example/g01154/laws.FnExactSuspendedOnce", spec := "fnExactSuspendedOnce", unfollowed := true, recurses := true, apart := false }
def FnExactSuspendedOnceSaid : Prop := fnExactSuspendedOnceRow.holds Try.pinned (OpenSpec.ofChange fnExactSuspendedOnceSpec)

/-- ITS FALSE NEIGHBOUR: 'it returns false'. Refute it at one input. -/
def fnExactSuspendedOnceWrong : ChangeSpec := { name := "fnExactSuspendedOnce", fn := fun _ => fun
  | [d] => { results := [.lit (.bool false)], args := [d] }
  | _ => none }
def FnExactSuspendedOnceWrongFalsely : Prop := fnExactSuspendedOnceRow.holds Try.pinned (OpenSpec.ofChange fnExactSuspendedOnceWrong)

/-- 'laws.FnExactUnstableFault': WHATEVER THE INPUT: true; the input reads as it did. -/
def fnExactUnstableFaultSpec : ChangeSpec := { name := "fnExactUnstableFault", fn := fun _ => fun
  | [d] => { results := [.lit (.bool true)], args := [d] }
  | _ => none }
def fnExactUnstableFaultRow : OpenClaim := { program := "ytdpkhgkoeoiemaa", sum := "3dada7be025d25976b48f5472e5983ed9b7df8bb8dd4eb7eadcd811b5e26846c", func := "loop.example/g01154/laws.FnExactUnstableFault", spec := "fnExactUnstableFault", unfollowed := true, recurses := true, apart := false }
def FnExactUnstableFaultSaid : Prop := fnExactUnstableFaultRow.holds Try.pinned (OpenSpec.ofChange fnExactUnstableFaultSpec)

/-- ITS FALSE NEIGHBOUR: 'it returns false'. Refute it at one input. -/
def fnExactUnstableFaultWrong : ChangeSpec := { name := "fnExactUnstableFault", fn := fun _ => fun
  | [d] => { results := [.lit (.bool false)], args := [d] }
  | _ => none }
def FnExactUnstableFaultWrongFalsely : Prop := fnExactUnstableFaultRow.holds Try.pinned (OpenSpec.ofChange fnExactUnstableFaultWrong)

/- THE SECOND FORM. 'bulk': how many values and letters a reading holds, each counted each time it is reached (what is shared counts as often as it is met; a slice's spare places count too). A statement '..UptoSaid' is the law's where the arguments, and the package variables that the reading takes, are together of bulk at most 1048576: NARROWER than '..Said'. Prove '..Said' where nothing that the law and all that it calls make is longer than what came in: it says more and counts as full. Else prove '..UptoSaid'. A law counts once. -/
mutual
def uptoBulk {H : Type} : DataW H → Nat
  | .lit (.string bytes) => bytes.length + 1
  | .lit _ => 1
  | .nil => 1
  | .ptr d => uptoBulk d + 1
  | .slice elems spare => uptoBulkAll elems + uptoBulkAll spare + 1
  | .agg parts => uptoBulkAll parts + 1
  | .iface _ d => uptoBulk d + 1
  | .map entries => uptoBulkEntries entries + 1
  | .held _ => 1
def uptoBulkAll {H : Type} : List (DataW H) → Nat
  | [] => 0
  | d :: r => uptoBulk d + uptoBulkAll r
def uptoBulkEntries {H : Type} : List (Lit × DataW H) → Nat
  | [] => 0
  | x :: r => uptoBulkEntry x + uptoBulkEntries r
def uptoBulkEntry {H : Type} : Lit × DataW H → Nat
  | (.string bytes, d) => bytes.length + uptoBulk d + 1
  | (_, d) => uptoBulk d + 1
 end
def uptoSmall : (H : Type) → List (DataW H) → Bool := fun _ ds => decide (uptoBulkAll ds ≤ 1048576)
def OpenSpec.upto (s : _root_.Go.ChangeSpec) : _root_.Go.OpenSpec := { _root_.Go.OpenSpec.ofChange s with cond := some uptoSmall }

/-- 'laws.FnExactIsUnstable', WHERE WHAT IT READS IS OF BULK AT MOST 1048576: true; the input reads as it did. -/
def fnExactIsUnstableUptoRow : OpenClaim := { program := "ytdpkhgkoeoiemaa", sum := "3dada7be025d25976b48f5472e5983ed9b7df8bb8dd4eb7eadcd811b5e26846c", func := "loop.example/g01154/laws.FnExactIsUnstable", spec := "fnExactIsUnstable", unfollowed := true, recurses := true, apart := false, narrowed := true }
def FnExactIsUnstableUptoSaid : Prop := fnExactIsUnstableUptoRow.holds Try.pinned (OpenSpec.upto fnExactIsUnstableSpec)

/-- 'laws.FnExactSuspendedOnce', WHERE WHAT IT READS IS OF BULK AT MOST 1048576: true; the input reads as it did. -/
def fnExactSuspendedOnceUptoRow : OpenClaim := { program := "ytdpkhgkoeoiemaa", sum := "3dada7be025d25976b48f5472e5983ed9b7df8bb8dd4eb7eadcd811b5e26846c", func := "loop.example/g01154/laws.FnExactSuspendedOnce", spec := "fnExactSuspendedOnce", unfollowed := true, recurses := true, apart := false, narrowed := true }
def FnExactSuspendedOnceUptoSaid : Prop := fnExactSuspendedOnceUptoRow.holds Try.pinned (OpenSpec.upto fnExactSuspendedOnceSpec)

/-- 'laws.FnExactUnstableFault', WHERE WHAT IT READS IS OF BULK AT MOST 1048576: true; the input reads as it did. -/
def fnExactUnstableFaultUptoRow : OpenClaim := { program := "ytdpkhgkoeoiemaa", sum := "3dada7be025d25976b48f5472e5983ed9b7df8bb8dd4eb7eadcd811b5e26846c", func := "loop.example/g01154/laws.FnExactUnstableFault", spec := "fnExactUnstableFault", unfollowed := true, recurses := true, apart := false, narrowed := true }
def FnExactUnstableFaultUptoSaid : Prop := fnExactUnstableFaultUptoRow.holds Try.pinned (OpenSpec.upto fnExactUnstableFaultSpec)

end Rows
end Go.Proofs.Ytdpkhgkoeoiemaa
