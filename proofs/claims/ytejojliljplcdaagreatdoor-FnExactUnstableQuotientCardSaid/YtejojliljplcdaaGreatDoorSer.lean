/- Contracts on series of degrees: isSeries, l18Is, IsNonnegative on both sides. -/
import Derived.Test.YtejojliljplcdaaGreatDoorBase
namespace Go.Proofs.YtejojliljplcdaaGreatDoor
open Go.RowKit
set_option linter.unusedVariables false

def seriesB (xs : List Int) : Bool := decide (1 ≤ xs.length) && (decide (xs.length ≤ 301) && xs.all smallB)

theorem all_getD (xs : List Int) (q : Int → Bool) (n : Nat) (hn : xs.length = n) : (List.range n).all (fun j => q (xs[j]?.getD 0)) = xs.all q :=
  all_range xs q _ n hn (fun j hj => by simp [hj])

theorem all_take_succ {xs : List Int} {q : Int → Bool} {k : Nat} {x : Int} (h : Hid ((xs.take k).all q = true)) (hx : Hid (xs[k]? = some x)) (hq : q x = true) : (xs.take (k+1)).all q = true := by
  rw [take_succ_of hx, List.all_append, h.out]; simp [hq]
theorem all_false_of {xs : List Int} {q : Int → Bool} {k : Nat} {x : Int} (hx : Hid (xs[k]? = some x)) (hq : q x = false) : xs.all q = false := by
  rw [List.all_eq_false]; exact ⟨x, mem_of hx, by simp [hq]⟩

theorem seriesB_len {xs : List Int} (h : seriesB xs = true) : 1 ≤ xs.length ∧ xs.length ≤ 301 := by
  simp [seriesB] at h; omega
theorem seriesB_small {xs : List Int} (h : seriesB xs = true) : ∀ x ∈ xs, -1000000000000 ≤ x ∧ x ≤ 1000000000000 := by
  simp only [seriesB, Bool.and_eq_true, List.all_eq_true] at h
  intro x hx
  exact inB_iff.1 (h.2.2 x hx)

/-! ### IsNonnegative -/
/-- two results: a bool and a code -/
def RetBC (b : Bool) (k : Int) (w : World) (e : Ending) (w' : World) : Prop := e = .returned (.tuple #[.bool b, .int .i64 k]) ∧ Below w.heap.size w w'
theorem RetBC.mk {b b' : Bool} {k k' : Int} {w w' : World} (h : b' = b) (hk : k' = k) (hb : Below w.heap.size w w') : RetBC b k w (.returned (.tuple #[.bool b', .int .i64 k'])) w' := ⟨by rw [h, hk], hb⟩

def nonB (x : Int) : Bool := decide (0 ≤ x)
def nonnegR (xs : List Int) : Bool := if seriesB xs = true then xs.all nonB else false
def nonnegC (xs : List Int) : Int := if seriesB xs = true then 0 else 1

end Go.Proofs.YtejojliljplcdaaGreatDoor
