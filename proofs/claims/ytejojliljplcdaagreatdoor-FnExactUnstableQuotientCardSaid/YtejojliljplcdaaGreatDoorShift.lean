/- ShiftSeries on both sides. -/
import Derived.Test.YtejojliljplcdaaGreatDoorCount
namespace Go.Proofs.YtejojliljplcdaaGreatDoor
open Go.RowKit
set_option linter.unusedVariables false

/-- the list moved by k, its first m numbers laid -/
def shiftAt (xs : List Int) (k m : Nat) : List Int := (List.range xs.length).map (fun j => if j < m ∧ k ≤ j then xs.getD (j - k) 0 else 0)
theorem shiftAt_length (xs : List Int) (k m : Nat) : (shiftAt xs k m).length = xs.length := by simp [shiftAt]
theorem shiftAt_start (xs : List Int) (k : Nat) : shiftAt xs k k = List.replicate xs.length 0 := by
  apply List.ext_getElem (by simp [shiftAt])
  intro j h1 h2
  simp [shiftAt]; omega
theorem shiftAt_step {xs : List Int} {k m : Nat} {x : Int} (hkm : k ≤ m) (hx : Hid (xs[m - k]? = some x)) : (shiftAt xs k m).set m x = shiftAt xs k (m + 1) := by
  apply List.ext_getElem (by simp [shiftAt])
  intro j h1 h2
  rw [List.getElem_set]
  split
  · subst j
    simp [shiftAt, hkm, hx.out]
  · rename_i hne
    simp only [shiftAt, List.getElem_map, List.getElem_range]
    have : (j < m ∧ k ≤ j) ↔ (j < m + 1 ∧ k ≤ j) := by omega
    simp only [this]
theorem shiftAt_end {xs : List Int} {k m : Nat} (h : xs.length ≤ m) : shiftAt xs k m = shiftAt xs k xs.length := by
  apply List.ext_getElem (by simp [shiftAt])
  intro j h1 h2
  rw [shiftAt_length] at h1
  simp only [shiftAt, List.getElem_map, List.getElem_range]
  have : (j < m ∧ k ≤ j) ↔ (j < xs.length ∧ k ≤ j) := by omega
  simp only [this]

def shiftN (xs : List Int) (k : Int) : Nat := if seriesB xs = true ∧ inB k 0 300 = true then xs.length else 0
def shiftL (xs : List Int) (k : Int) : List Int := if seriesB xs = true ∧ inB k 0 300 = true then shiftAt xs k.toNat xs.length else []
def shiftC (xs : List Int) (k : Int) : Int := if seriesB xs = true then if inB k 0 300 = true then 0 else 2 else 1

end Go.Proofs.YtejojliljplcdaaGreatDoor
