/- spec.KamekoUp. -/
import Derived.Test.YtoodhbafleemjaaGreatKam
import Derived.Test.YtoodhbafleemjaaGreatSumL
import Derived.Lib.QuietBelow
namespace Go.Proofs.YtoodhbafleemjaaGreat
open Go.RowKit
set_option linter.unusedVariables false

theorem asc_take {xss : List (List Int)} (h : Asc xss) (k : Nat) : Asc (xss.take k) := List.Pairwise.sublist (List.take_sublist k xss) h
theorem ups_step {xss : List (List Int)} {k : Nat} {x : List Int} (h : xss[k]? = some x) (ha : Asc xss) : oddL ((xss.take k).map upW ++ [upW x]) = (xss.take (k + 1)).map upW := by
  rw [← ups_take_succ h]
  exact oddL_of_asc (up_asc (asc_take ha _))

end Go.Proofs.YtoodhbafleemjaaGreat
