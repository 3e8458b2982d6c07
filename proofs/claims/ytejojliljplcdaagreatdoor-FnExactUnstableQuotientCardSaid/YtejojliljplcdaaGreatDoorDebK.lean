/- The library's table, carried through a law's walk; integers opened at the top of an argument. -/
import Derived.Test.YtejojliljplcdaaGreatDoorTzI
import Derived.Test.YtejojliljplcdaaGreatDoorLawK
namespace Go.Proofs.YtejojliljplcdaaGreatDoor
open Go.RowKit
set_option linter.unusedVariables false

theorem It.deb {w : World} {B : Nat} (h : Deb w) (hB : B ≤ w.heap.size) (h1 : 1 ≤ B) : It 0 B (fun V => Deb V) w :=
  ⟨h, hB, fun w' k1 k2 k3 k4 k5 => h.belowB ⟨k2, k3, k4, k1, fun g hg => k5 g (Nat.zero_le _) hg⟩ h1⟩
end Go.Proofs.YtejojliljplcdaaGreatDoor
