/- The library's table, carried through a law's walk; integers opened at the top of an argument. -/
import Derived.Test.YtdpkhgkoeoiemaaDoorDblI
import Derived.Test.YtdpkhgkoeoiemaaDoorLawS
namespace Go.Proofs.YtdpkhgkoeoiemaaDoor
open Go.RowKit
set_option linter.unusedVariables false

theorem Deb.pos {w : World} (h : Deb w) : 1 ≤ w.heap.size := by
  have h1 := World.block_lt_of_cell? w _ (h 0 (by decide))
  exact h1
theorem Deb.belowB {w w' : World} {B : Nat} (h : Deb w) (hb : Below B w w') (h1 : 1 ≤ B) : Deb w' := fun j hj => (hb.cell (p := ⟨0, j, none⟩) h1).trans (h j hj)
theorem It.deb {w : World} {B : Nat} (h : Deb w) (hB : B ≤ w.heap.size) (h1 : 1 ≤ B) : It 0 B (fun V => Deb V) w :=
  ⟨h, hB, fun w' k1 k2 k3 k4 k5 => h.belowB ⟨k2, k3, k4, k1, fun g hg => k5 g (Nat.zero_le _) hg⟩ h1⟩
theorem open_rowT {H : Type} {enc : TypeId × Value → H} {P : Program} {w : World} {base : Nat} {held : Bool} {t e : TypeId} {v : Value} {d : DataW H} {p : List MemPlace} (ht : P.underlying t = some (.slice e)) (he : P.underlying e = some (.int .i64))
    (ce : P.cellsOf e = 1) {b0 : Nat} {r : Reach} (hv : Value.okWide P w r b0 t v) (h : DataW.Trod enc P w base (fun _ => true) held t v d p) :
    ∃ A n c xs, v = .slice A n c ∧ RdS w w.heap.size A n c xs ∧ n ≤ 9223372036854775807 ∧ ∀ i ∈ xs, (Lit.int .i64 i).wf = true := by
  obtain ⟨A, n, c, rfl⟩ := Go.WideShapes.okWide_slice ht hv
  obtain ⟨fuel, hf⟩ := h
  obtain ⟨A', n', c', xs, hv', h1, h2, h3⟩ := open_row ht he ce (show DataW.trod enc P w base (fun _ => true) held fuel t [.slice A n c] = some (d, p) from hf)
  exact ⟨A', n', c', xs, hv', h1, h2, h3⟩
end Go.Proofs.YtdpkhgkoeoiemaaDoor
