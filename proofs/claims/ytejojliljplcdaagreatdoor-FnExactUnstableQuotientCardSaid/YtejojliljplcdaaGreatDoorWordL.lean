/- Lambda words on both sides: isLambdaWord, l16Word. -/
import Derived.Test.YtejojliljplcdaaGreatDoorAllL
import Derived.Test.YtejojliljplcdaaGreatDoorLex
namespace Go.Proofs.YtejojliljplcdaaGreatDoor
open Go.RowKit
set_option linter.unusedVariables false

def facB (xs : List Int) : Bool := xs.all (fun x => inB x 0 11)
def wordB (xs : List Int) : Bool := decide (xs.length ≤ 7) && facB xs && inB (psT 0 xs) 0 11

theorem psT_range_aux (xs : List Int) : ∀ t : Int, 0 ≤ t → t + 11 * (xs.length : Int) ≤ 1000000 → facB xs = true → 0 ≤ psT t xs ∧ psT t xs ≤ t + 11 * (xs.length : Int) := by
  induction xs with
  | nil => intro t h0 h1 _; simp [psT]; omega
  | cons x xs ih =>
    intro t h0 h1 hf
    have hx : inB x 0 11 = true ∧ facB xs = true := by simpa [facB] using hf
    have hx0 := inB_iff.1 hx.1
    have hl : ((x :: xs).length : Int) = (xs.length : Int) + 1 := by simp
    rw [hl] at h1 ⊢
    have hw : wrap64 (t + x) = t + x := by unfold wrap64; omega
    have e : psT t (x :: xs) = psT (t + x) xs := by rw [← hw]; rfl
    rw [e]
    have := ih (t + x) (by omega) (by omega) hx.2
    omega
theorem psT_range {xs : List Int} (h : facB xs = true) (hl : xs.length ≤ 7) : 0 ≤ psT 0 xs := (psT_range_aux xs 0 (by omega) (by omega) h).1
theorem facB_no {xs : List Int} {k : Nat} {x : Int} (hx : Hid (xs[k]? = some x)) (h : inB x 0 11 = false) : facB xs = false := by
  rw [facB, List.all_eq_false]
  exact ⟨x, mem_of hx, by simp [h]⟩

end Go.Proofs.YtejojliljplcdaaGreatDoor
