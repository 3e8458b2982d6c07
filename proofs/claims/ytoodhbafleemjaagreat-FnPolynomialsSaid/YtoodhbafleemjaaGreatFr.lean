/- Frames of functions over structs: boxed parameters, a result in memory. -/
import Derived.Test.YtoodhbafleemjaaGreatLamT
import Derived.Test.YtoodhbafleemjaaGreatPush
namespace Go.Proofs.YtoodhbafleemjaaGreat
open Go.RowKit
set_option linter.unusedVariables false

/-- one boxed parameter and the result's cell -/
structure Fr2 (b : Nat) (V1 V2 : Value) (w : World) : Prop where
  c1 : w.cell? ⟨b, 0, none⟩ = some V1
  c2 : w.cell? ⟨b + 1, 0, none⟩ = some V2
  f2 : w.frozen? ⟨b + 1, 0, none⟩ = false
  lt : b + 1 < w.heap.size
theorem Fr2.below {b : Nat} {V1 V2 : Value} {w w1 : World} (h : Fr2 b V1 V2 w) (hb : Below w.heap.size w w1) : Fr2 b V1 V2 w1 :=
  ⟨bcell hb (by have := h.lt; omega) h.c1, bcell hb h.lt h.c2, bfree hb h.lt h.f2, Nat.lt_of_lt_of_le h.lt hb.size⟩
/-- two boxed parameters and the result's cell -/
structure Fr3 (b : Nat) (V1 V2 V3 : Value) (w : World) : Prop where
  c1 : w.cell? ⟨b, 0, none⟩ = some V1
  c2 : w.cell? ⟨b + 1, 0, none⟩ = some V2
  c3 : w.cell? ⟨b + 1 + 1, 0, none⟩ = some V3
  f3 : w.frozen? ⟨b + 1 + 1, 0, none⟩ = false
  lt : b + 1 + 1 < w.heap.size
theorem Fr3.below {b : Nat} {V1 V2 V3 : Value} {w w1 : World} (h : Fr3 b V1 V2 V3 w) (hb : Below w.heap.size w w1) : Fr3 b V1 V2 V3 w1 :=
  ⟨bcell hb (by have := h.lt; omega) h.c1, bcell hb (by have := h.lt; omega) h.c2, bcell hb h.lt h.c3, bfree hb h.lt h.f3, Nat.lt_of_lt_of_le h.lt hb.size⟩
theorem alloc2 (w : World) (V1 V2 : Value) (T1 T2 : TypeId) : ∃ w0 b, w0 = (w.alloc (.cells #[V1] T1)).alloc (.cells #[V2] T2) ∧ b = w.heap.size ∧ Below w.heap.size w w0 ∧ w0.heap.size = b + 1 + 1 ∧ Fr2 b V1 V2 w0 := by
  refine ⟨_, _, rfl, rfl, ((Below.refl _ _).alloc (Nat.le_refl _) _).alloc (by simp) _, by simp, ?_, ?_, ?_, by simp⟩
  · exact old_at (by simp) (new_at rfl rfl)
  · exact new_at (by simp) rfl
  · exact new_free (by simp)
theorem alloc3 (w : World) (V1 V2 V3 : Value) (T1 T2 T3 : TypeId) : ∃ w0 b, w0 = ((w.alloc (.cells #[V1] T1)).alloc (.cells #[V2] T2)).alloc (.cells #[V3] T3) ∧ b = w.heap.size ∧ Below w.heap.size w w0 ∧ w0.heap.size = b + 1 + 1 + 1 ∧ Fr3 b V1 V2 V3 w0 := by
  refine ⟨_, _, rfl, rfl, (((Below.refl _ _).alloc (Nat.le_refl _) _).alloc (by simp) _).alloc (by simp; omega) _, by simp, ?_, ?_, ?_, ?_, by simp⟩
  · exact old_at (by simp; omega) (old_at (by simp) (new_at rfl rfl))
  · exact old_at (by simp) (new_at (by simp) rfl)
  · exact new_at (by simp) rfl
  · exact new_free (by simp)

theorem cell_set {w : World} {r : Nat} {u v : Value} (h : w.cell? ⟨r, 0, none⟩ = some u) : (w.setCell ⟨r, 0, none⟩ v).cell? ⟨r, 0, none⟩ = some v := by
  rw [World.cell?_setCell_same (u := u)]
  exact h

theorem OwnM.nil {w : World} {B K : Nat} : OwnM w B K none 0 0 [] := ⟨OwnL.nil, fun g hg => by cases hg⟩
/-- the end of a function that stores a struct of one owned list into its result's cell -/
theorem endM {w w0 wn : World} {r K n c : Nat} {A : Option Addr} {xss : List (List Int)} {V : Value} (F0 : Below w.heap.size w w0) (Bn : Below w0.heap.size w0 wn) (hr : w.heap.size ≤ r ∧ r < w0.heap.size) (O : OwnM wn w0.heap.size K A n c xss) (hK : K ≤ wn.heap.size) :
    OwnM (wn.setCell ⟨r, 0, none⟩ V) w.heap.size (wn.setCell ⟨r, 0, none⟩ V).heap.size A n c xss ∧ Below w.heap.size w (wn.setCell ⟨r, 0, none⟩ V) :=
  ⟨((O.mid (mid_setCell (p := ⟨r, 0, none⟩) V hr) (Nat.le_refl _)).mono F0.size (by simpa [World.setCell] using hK)), (F0.trans (Bn.mono F0.size)).setCell (p := ⟨r, 0, none⟩) hr.1 V⟩
theorem RetMC.mk {w w0 wn : World} {r K n m c : Nat} {A : Option Addr} {xss yss : List (List Int)} {V : Value} {k k' : Int} (hm : m = n) (hx : yss = xss) (hk : k' = k) (F0 : Below w.heap.size w w0) (Bn : Below w0.heap.size w0 wn) (hr : w.heap.size ≤ r ∧ r < w0.heap.size)
    (O : OwnM wn w0.heap.size K A m c yss) (hK : K ≤ wn.heap.size) : RetMC n xss k w (.returned (.tuple #[.agg #[.slice A m c], .int .i64 k'])) (wn.setCell ⟨r, 0, none⟩ V) := by
  subst hm; subst hx; subst hk
  exact ⟨A, c, rfl, (endM F0 Bn hr O hK).1, (endM F0 Bn hr O hK).2⟩
theorem RetMC.bad {w w0 wn : World} {r n : Nat} {xss : List (List Int)} {V : Value} {k k' : Int} (hm : 0 = n) (hx : [] = xss) (hk : k' = k) (F0 : Below w.heap.size w w0) (Bn : Below w0.heap.size w0 wn) (hr : w.heap.size ≤ r ∧ r < w0.heap.size) :
    RetMC n xss k w (.returned (.tuple #[.agg #[.slice none 0 0], .int .i64 k'])) (wn.setCell ⟨r, 0, none⟩ V) := RetMC.mk (K := 0) hm hx hk F0 Bn hr OwnM.nil (Nat.zero_le _)
end Go.Proofs.YtoodhbafleemjaaGreat
