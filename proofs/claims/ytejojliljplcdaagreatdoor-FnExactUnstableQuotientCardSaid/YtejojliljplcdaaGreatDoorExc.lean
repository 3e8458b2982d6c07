/- Sums and excess of words on both sides. -/
import Derived.Test.YtejojliljplcdaaGreatDoorSums
namespace Go.Proofs.YtejojliljplcdaaGreatDoor
open Go.RowKit
set_option linter.unusedVariables false

/-- the excess of a word, with numbers that go round -/
def excW : List Int → Int
  | [] => 0
  | x :: xs => wrap64 (wrap64 (2 * x) - psT 0 (x :: xs))
def RetIq (x : Int) (w : World) (e : Ending) (w' : World) : Prop := e = .returned (.int .i64 x) ∧ ∃ k, w' = w.drewN k
theorem RetIq.mk {x y : Int} {w w' : World} (h : y = x) (hk : ∃ k, w' = w.drewN k) : RetIq x w (.returned (.int .i64 y)) w' := ⟨by rw [h], hk⟩

end Go.Proofs.YtejojliljplcdaaGreatDoor
