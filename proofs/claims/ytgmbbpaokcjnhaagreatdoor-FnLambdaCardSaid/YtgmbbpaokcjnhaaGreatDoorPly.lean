/- IsPoly on both sides: conditions on monomials. -/
import Derived.Test.YtgmbbpaokcjnhaaGreatDoorAllL
import Derived.Test.YtgmbbpaokcjnhaaGreatDoorLawK
namespace Go.Proofs.YtgmbbpaokcjnhaaGreatDoor
open Go.RowKit
set_option linter.unusedVariables false

def degsB (xs : List Int) : Bool := xs.all (fun x => inB x 0 40)
def monB (v : Int) (xs : List Int) : Bool := decide ((xs.length : Int) = v) && degsB xs && decide (psT 0 xs ≤ 40)
def polB (v : Int) (xss : List (List Int)) : Bool := inB v 1 4 && decide (xss.length ≤ 2000) && xss.all (monB v) && risB xss && sameB (psT 0) xss

end Go.Proofs.YtgmbbpaokcjnhaaGreatDoor

/- IsPoly on both sides: the reference. -/
namespace Go.Proofs.YtgmbbpaokcjnhaaGreatDoor
open Go.RowKit
set_option linter.unusedVariables false

def okm (v : Int) (x0 x : List Int) : Bool := monB v x && decide (psT 0 x = psT 0 x0)
theorem polB_eq (v : Int) (xss : List (List Int)) : polB v xss = (inB v 1 4 && decide (xss.length ≤ 2000) && risB xss && xss.all (okm v (xss.headD []))) := by
  have h : xss.all (okm v (xss.headD [])) = (xss.all (monB v) && sameB (psT 0) xss) := by
    rw [Bool.eq_iff_iff]
    simp only [Bool.and_eq_true, List.all_eq_true, sameB, okm]
    exact ⟨fun h => ⟨fun x hx => (h x hx).1, fun x hx => (h x hx).2⟩, fun h x hx => ⟨h.1 x hx, h.2 x hx⟩⟩
  rw [h]
  unfold polB
  cases inB v 1 4 <;> cases decide (xss.length ≤ 2000) <;> cases risB xss <;> cases xss.all (monB v) <;> cases sameB (psT 0) xss <;> rfl
theorem degsB_no {xs : List Int} {k : Nat} {x : Int} (hx : Hid (xs[k]? = some x)) (h : inB x 0 40 = false) : degsB xs = false := by
  rw [degsB, List.all_eq_false]
  exact ⟨x, mem_of hx, by simp [h]⟩

end Go.Proofs.YtgmbbpaokcjnhaaGreatDoor

/- Degrees of polynomials; DegreeOfPoly on both sides. -/
namespace Go.Proofs.YtgmbbpaokcjnhaaGreatDoor
open Go.RowKit
set_option linter.unusedVariables false

/-- the degree of terms, and 0 of none -/
def degL (xss : List (List Int)) : Int := psT 0 (xss.headD [])
theorem headD_of {xss : List (List Int)} {x : List Int} (h : xss[0]? = some x) : xss.headD [] = x := by
  cases xss with
  | nil => simp at h
  | cons y ys => simpa using h
theorem degL_nil {xss : List (List Int)} (h : xss.length = 0) : degL xss = 0 := by
  cases xss with
  | nil => rfl
  | cons y ys => simp at h

def dopO (v : Int) (xss : List (List Int)) : Int × Int := if polB v xss then (if xss.isEmpty then (0, 5) else (degL xss, 0)) else (0, 1)
theorem dopO_bad {v : Int} {xss : List (List Int)} (h : polB v xss = false) : dopO v xss = (0, 1) := by simp [dopO, h]
theorem dopO_nil {v : Int} {xss : List (List Int)} (h : polB v xss = true) (h2 : xss.length = 0) : dopO v xss = (0, 5) := by
  have : xss = [] := List.eq_nil_of_length_eq_zero h2
  subst this
  unfold dopO
  rw [if_pos h]; rfl
theorem dopO_ok {v : Int} {xss : List (List Int)} (h : polB v xss = true) (h2 : 0 < xss.length) : dopO v xss = (degL xss, 0) := by
  have : xss.isEmpty = false := by cases xss with | nil => simp at h2 | cons x xs => rfl
  simp only [dopO, h, this]; rfl
theorem polB_len {v : Int} {xss : List (List Int)} (h : polB v xss = true) : xss.length ≤ 2000 := by
  simp only [polB, Bool.and_eq_true, decide_eq_true_eq] at h
  exact h.1.1.1.2

theorem rdL_here {w w1 : World} {A : Option Addr} {n c : Nat} {xss : List (List Int)} (h : RdL w w.heap.size A n c xss) (hb : Below w.heap.size w w1) : RdL w1 w1.heap.size A n c xss := (h.below hb).mono hb.size

end Go.Proofs.YtgmbbpaokcjnhaaGreatDoor

/- The law package's helpers on Poly. -/
namespace Go.Proofs.YtgmbbpaokcjnhaaGreatDoor
open Go.RowKit
set_option linter.unusedVariables false

/-- a struct of a number and an owned list of lists comes back -/
def RetN (v : Int) (n : Nat) (xss : List (List Int)) (w : World) (e : Ending) (w' : World) : Prop :=
  ∃ A c, e = .returned (.agg #[.int .i64 v, .slice A n c]) ∧ OwnM w' w.heap.size w'.heap.size A n c xss ∧ Below w.heap.size w w'
def RetNC (v : Int) (n : Nat) (xss : List (List Int)) (k : Int) (w : World) (e : Ending) (w' : World) : Prop :=
  ∃ A c, e = .returned (.tuple #[.agg #[.int .i64 v, .slice A n c], .int .i64 k]) ∧ OwnM w' w.heap.size w'.heap.size A n c xss ∧ Below w.heap.size w w'

end Go.Proofs.YtgmbbpaokcjnhaaGreatDoor
