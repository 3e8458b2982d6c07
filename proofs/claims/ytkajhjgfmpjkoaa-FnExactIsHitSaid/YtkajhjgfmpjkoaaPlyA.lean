/- Two polynomials: frames, and what AddPolys answers. -/
import Derived.Test.YtkajhjgfmpjkoaaKam
import Derived.Test.YtkajhjgfmpjkoaaMapR
namespace Go.Proofs.Ytkajhjgfmpjkoaa
open Go.RowKit
set_option linter.unusedVariables false

/-- two boxes of a Poly each and the result's cells -/
theorem start222 (w : World) (U1 U2 V1 V2 R1 R2 : Value) (T1 T2 T3 : TypeId) : ∃ w0 b, w0 = ((w.alloc (.cells #[U1, U2] T1)).alloc (.cells #[V1, V2] T2)).alloc (.cells #[R1, R2] T3) ∧ b = w.heap.size ∧ Below w.heap.size w w0 ∧ w0.heap.size = b + 1 + 1 + 1 ∧
    Cells [(b + 1 + 1, 0, R1), (b + 1 + 1, 1, R2), (b + 1, 0, V1), (b + 1, 1, V2), (b, 0, U1), (b, 1, U2)] w0 := by
  refine ⟨_, _, rfl, rfl, (((Below.refl _ _).alloc (Nat.le_refl _) _).alloc (by simp) _).alloc (by simp; omega) _, by simp, ?_⟩
  exact ((Cells.nil.alloc2 U1 U2 T1 rfl).alloc2 V1 V2 T2 (by simp)).alloc2 R1 R2 T3 (by simp)
theorem PolF.degs {v : Int} {xss : List (List Int)} {k : Nat} (h : PolF v xss) (hk : v = k) : ∀ x ∈ xss, Deg k (degL xss) x := fun x hx => by
  have h1 := h.each x hx
  refine ⟨fun a ha => (h1.2.1 a ha).1, by rw [h.deg.1]; exact h.same x hx, by omega⟩
theorem PolF.monos {v : Int} {xss : List (List Int)} {k : Nat} (h : PolF v xss) (hk : v = k) : ∀ x ∈ xss, Mono k x := fun x hx => (h.degs hk x hx).mono (by have := h.deg; omega)
theorem Mono.ten {k : Nat} {x : List Int} (h : Mono k x) (hk : k ≤ 10) : fitP x ∧ x.length ≤ 10 := ⟨h.1, by rw [h.2]; exact hk⟩

/-- what AddPolys answers -/
def adpO (v : Int) (f : List (List Int)) (u : Int) (g : List (List Int)) : Int × List (List Int) × Int :=
  if polB v f = true ∧ polB u g = true then
    (if v = u ∧ (f = [] ∨ g = [] ∨ degL f = degL g) then toldV v (oddL (f ++ g)) else (0, [], 2))
  else (0, [], 1)
theorem adpO_bad1 {v u : Int} {f g : List (List Int)} (h : polB v f = false) : adpO v f u g = (0, [], 1) := by unfold adpO; rw [if_neg (by rw [h]; simp)]
theorem adpO_bad2 {v u : Int} {f g : List (List Int)} (h : polB u g = false) : adpO v f u g = (0, [], 1) := by unfold adpO; rw [if_neg (by rw [h]; simp)]
theorem adpO_range {v u : Int} {f g : List (List Int)} (h1 : polB v f = true) (h2 : polB u g = true) (h : v ≠ u ∨ 0 < f.length ∧ 0 < g.length ∧ degL f ≠ degL g) : adpO v f u g = (0, [], 2) := by
  unfold adpO
  rw [if_pos ⟨h1, h2⟩, if_neg]
  rintro ⟨e, h3⟩
  rcases h with h | ⟨k1, k2, k3⟩
  · exact h e
  · rcases h3 with h3 | h3 | h3
    · rw [h3] at k1; simp at k1
    · rw [h3] at k2; simp at k2
    · exact k3 h3
theorem adpO_ok {v u : Int} {f g : List (List Int)} (h1 : polB v f = true) (h2 : polB u g = true) (h : v = u) (h3 : f.length = 0 ∨ g.length = 0 ∨ degL f = degL g) : adpO v f u g = toldV v (oddL (f ++ g)) := by
  have h4 : f = [] ∨ g = [] ∨ degL f = degL g := by
    rcases h3 with h3 | h3 | h3
    · exact .inl (List.eq_nil_of_length_eq_zero h3)
    · exact .inr (.inl (List.eq_nil_of_length_eq_zero h3))
    · exact .inr (.inr h3)
  unfold adpO
  rw [if_pos ⟨h1, h2⟩, if_pos ⟨h, h4⟩]
end Go.Proofs.Ytkajhjgfmpjkoaa
