/- Two polynomials: frames, and what AddPolys answers. -/
import Derived.Test.YtoigdiekkkkapaaKam
import Derived.Test.YtoigdiekkkkapaaMapR
import Derived.Test.YtoigdiekkkkapaaModT
import Derived.Deep.RegionHeld3
namespace Go.Proofs.Ytoigdiekkkkapaa
open Go.RowKit
set_option linter.unusedVariables false

/-- two boxes of a Poly each and the result's cells -/
theorem start222 (w : World) (U1 U2 V1 V2 R1 R2 : Value) (T1 T2 T3 : TypeId) : ∃ w0 b, w0 = ((w.alloc (.cells #[U1, U2] T1)).alloc (.cells #[V1, V2] T2)).alloc (.cells #[R1, R2] T3) ∧ b = w.heap.size ∧ Below w.heap.size w w0 ∧ w0.heap.size = b + 1 + 1 + 1 ∧
    Cells [(b + 1 + 1, 0, R1), (b + 1 + 1, 1, R2), (b + 1, 0, V1), (b + 1, 1, V2), (b, 0, U1), (b, 1, U2)] w0 := by
  refine ⟨_, _, rfl, rfl, (((Below.refl _ _).alloc (Nat.le_refl _) _).alloc (by simp) _).alloc (by simp; omega) _, by simp, ?_⟩
  exact ((Cells.nil.alloc2 U1 U2 T1 rfl).alloc2 V1 V2 T2 (by simp)).alloc2 R1 R2 T3 (by simp)
theorem PolF.degs {v : Int} {xss : List (List Int)} {k : Nat} (h : PolF v xss) (hk : v = k) : ∀ x ∈ xss, Deg k (degL xss) x := fun x hx => by
  have h1 := h.each x hx
  refine ⟨fun a ha => (h1.2.1 a ha).1, by rw [h.deg.1]; exact h.same x hx, by omega⟩
theorem PolF.monos {v : Int} {xss : List (List Int)} {k : Nat} (h : PolF v xss) (hk : v = k) : ∀ x ∈ xss, Mono k x := fun x hx => (h.degs hk x hx).mono (by have := h.deg; omega)
theorem Mono.ten {k : Nat} {x : List Int} (h : Mono k x) (hk : k ≤ 10) : fitP x ∧ x.length ≤ 10 := ⟨h.1, by rw [h.2]; exact hk⟩

/-- what AddPolys answers -/
def adpO (v : Int) (f : List (List Int)) (u : Int) (g : List (List Int)) : Int × List (List Int) × Int :=
  if polB v f = true ∧ polB u g = true then
    (if v = u ∧ (f = [] ∨ g = [] ∨ degL f = degL g) then toldV v (oddL (f ++ g)) else (0, [], 2))
  else (0, [], 1)
theorem adpO_bad1 {v u : Int} {f g : List (List Int)} (h : polB v f = false) : adpO v f u g = (0, [], 1) := by unfold adpO; rw [if_neg (by rw [h]; simp)]
theorem adpO_bad2 {v u : Int} {f g : List (List Int)} (h : polB u g = false) : adpO v f u g = (0, [], 1) := by unfold adpO; rw [if_neg (by rw [h]; simp)]
theorem adpO_range {v u : Int} {f g : List (List Int)} (h1 : polB v f = true) (h2 : polB u g = true) (h : v ≠ u ∨ 0 < f.length ∧ 0 < g.length ∧ degL f ≠ degL g) : adpO v f u g = (0, [], 2) := by
  unfold adpO
  rw [if_pos ⟨h1, h2⟩, if_neg]
  rintro ⟨e, h3⟩
  rcases h with h | ⟨k1, k2, k3⟩
  · exact h e
  · rcases h3 with h3 | h3 | h3
    · rw [h3] at k1; simp at k1
    · rw [h3] at k2; simp at k2
    · exact k3 h3
theorem adpO_ok {v u : Int} {f g : List (List Int)} (h1 : polB v f = true) (h2 : polB u g = true) (h : v = u) (h3 : f.length = 0 ∨ g.length = 0 ∨ degL f = degL g) : adpO v f u g = toldV v (oddL (f ++ g)) := by
  have h4 : f = [] ∨ g = [] ∨ degL f = degL g := by
    rcases h3 with h3 | h3 | h3
    · exact .inl (List.eq_nil_of_length_eq_zero h3)
    · exact .inr (.inl (List.eq_nil_of_length_eq_zero h3))
    · exact .inr (.inr h3)
  unfold adpO
  rw [if_pos ⟨h1, h2⟩, if_pos ⟨h, h4⟩]
end Go.Proofs.Ytoigdiekkkkapaa

/- spec.l08Fit, spec.l08Both. -/
namespace Go.Proofs.Ytoigdiekkkkapaa
open Go.RowKit
set_option linter.unusedVariables false

/-- what l08Fit answers: the list itself, or nothing -/
def RetFitP (v : Int) (A : Option Addr) (n c : Nat) (w : World) (e : Ending) (w' : World) : Prop :=
  Below w.heap.size w w' ∧ (2000 < n → e = .returned (.tuple #[.agg #[.int .i64 0, .slice none 0 0], .int .i64 3])) ∧ (¬ 2000 < n → e = .returned (.tuple #[.agg #[.int .i64 v, .slice A n c], .int .i64 0]))
theorem RetFitP.no {v : Int} {A : Option Addr} {n c : Nat} {w w' : World} (h : 2000 < n) (hb : Below w.heap.size w w') : RetFitP v A n c w (.returned (.tuple #[.agg #[.int .i64 0, .slice none 0 0], .int .i64 3])) w' := ⟨hb, fun _ => rfl, fun h2 => absurd h h2⟩
theorem RetFitP.yes {v : Int} {A : Option Addr} {n c : Nat} {w w' : World} (h : ¬ 2000 < n) (hb : Below w.heap.size w w') : RetFitP v A n c w (.returned (.tuple #[.agg #[.int .i64 v, .slice A n c], .int .i64 0])) w' := ⟨hb, fun h2 => absurd h2 h, fun _ => rfl⟩
theorem two_far {w : World} {bn b i : Nat} {X Y V : Value} (hne : bn ≠ b) (h : w.cell? ⟨b, i, none⟩ = some V) : ((w.setCell ⟨bn, 0, none⟩ X).setCell ⟨bn, 1, none⟩ Y).cell? ⟨b, i, none⟩ = some V :=
  (World.cell?_setCell_far _ _ _ _ hne).trans ((World.cell?_setCell_far _ _ _ _ hne).trans h)
/-- two cells of one block are written: what lies elsewhere stays owned -/
theorem OwnM.two {w : World} {B K n c bn : Nat} {A : Option Addr} {xss : List (List Int)} {X Y : Value} (h : OwnM w B K A n c xss) (hK : K ≤ w.heap.size) (hb : bn < B ∨ K ≤ bn) : OwnM ((w.setCell ⟨bn, 0, none⟩ X).setCell ⟨bn, 1, none⟩ Y) B K A n c xss :=
  h.apart ((mid_setCell (B := bn) (K := bn + 1) (p := ⟨bn, 0, none⟩) X ⟨Nat.le_refl _, Nat.lt_succ_self _⟩).trans (mid_setCell (p := ⟨bn, 1, none⟩) Y ⟨Nat.le_refl _, Nat.lt_succ_self _⟩)) hK (by omega)
/-- two boxes -/
theorem start22' (w : World) (U1 U2 V1 V2 : Value) (T1 T2 : TypeId) : ∃ w0 b, w0 = (w.alloc (.cells #[U1, U2] T1)).alloc (.cells #[V1, V2] T2) ∧ b = w.heap.size ∧ Below w.heap.size w w0 ∧ w0.heap.size = b + 1 + 1 ∧
    Cells [(b + 1, 0, V1), (b + 1, 1, V2), (b, 0, U1), (b, 1, U2)] w0 := start22 w U1 U2 V1 V2 T1 T2
def bothO (v : Int) (f : List (List Int)) (u : Int) (g : List (List Int)) : Int := if polB v f = true ∧ polB u g = true then (if v = u then 0 else 2) else 1
end Go.Proofs.Ytoigdiekkkkapaa
