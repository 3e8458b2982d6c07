/- spec.l08Fit, spec.l08Both. -/
import Derived.Test.YtkajhjgfmpjkoaaPlyA
import Derived.Test.YtkajhjgfmpjkoaaModT
import Derived.Deep.RegionHeld3
namespace Go.Proofs.Ytkajhjgfmpjkoaa
open Go.RowKit
set_option linter.unusedVariables false

/-- what l08Fit answers: the list itself, or nothing -/
def RetFitP (v : Int) (A : Option Addr) (n c : Nat) (w : World) (e : Ending) (w' : World) : Prop :=
  Below w.heap.size w w' ∧ (2000 < n → e = .returned (.tuple #[.agg #[.int .i64 0, .slice none 0 0], .int .i64 3])) ∧ (¬ 2000 < n → e = .returned (.tuple #[.agg #[.int .i64 v, .slice A n c], .int .i64 0]))
theorem RetFitP.no {v : Int} {A : Option Addr} {n c : Nat} {w w' : World} (h : 2000 < n) (hb : Below w.heap.size w w') : RetFitP v A n c w (.returned (.tuple #[.agg #[.int .i64 0, .slice none 0 0], .int .i64 3])) w' := ⟨hb, fun _ => rfl, fun h2 => absurd h h2⟩
theorem RetFitP.yes {v : Int} {A : Option Addr} {n c : Nat} {w w' : World} (h : ¬ 2000 < n) (hb : Below w.heap.size w w') : RetFitP v A n c w (.returned (.tuple #[.agg #[.int .i64 v, .slice A n c], .int .i64 0])) w' := ⟨hb, fun h2 => absurd h2 h, fun _ => rfl⟩
theorem two_far {w : World} {bn b i : Nat} {X Y V : Value} (hne : bn ≠ b) (h : w.cell? ⟨b, i, none⟩ = some V) : ((w.setCell ⟨bn, 0, none⟩ X).setCell ⟨bn, 1, none⟩ Y).cell? ⟨b, i, none⟩ = some V :=
  (World.cell?_setCell_far _ _ _ _ hne).trans ((World.cell?_setCell_far _ _ _ _ hne).trans h)
/-- two cells of one block are written: what lies elsewhere stays owned -/
theorem OwnM.two {w : World} {B K n c bn : Nat} {A : Option Addr} {xss : List (List Int)} {X Y : Value} (h : OwnM w B K A n c xss) (hK : K ≤ w.heap.size) (hb : bn < B ∨ K ≤ bn) : OwnM ((w.setCell ⟨bn, 0, none⟩ X).setCell ⟨bn, 1, none⟩ Y) B K A n c xss :=
  h.apart ((mid_setCell (B := bn) (K := bn + 1) (p := ⟨bn, 0, none⟩) X ⟨Nat.le_refl _, Nat.lt_succ_self _⟩).trans (mid_setCell (p := ⟨bn, 1, none⟩) Y ⟨Nat.le_refl _, Nat.lt_succ_self _⟩)) hK (by omega)
/-- two boxes -/
theorem start22' (w : World) (U1 U2 V1 V2 : Value) (T1 T2 : TypeId) : ∃ w0 b, w0 = (w.alloc (.cells #[U1, U2] T1)).alloc (.cells #[V1, V2] T2) ∧ b = w.heap.size ∧ Below w.heap.size w w0 ∧ w0.heap.size = b + 1 + 1 ∧
    Cells [(b + 1, 0, V1), (b + 1, 1, V2), (b, 0, U1), (b, 1, U2)] w0 := start22 w U1 U2 V1 V2 T1 T2
def bothO (v : Int) (f : List (List Int)) (u : Int) (g : List (List Int)) : Int := if polB v f = true ∧ polB u g = true then (if v = u then 0 else 2) else 1
end Go.Proofs.Ytkajhjgfmpjkoaa
