/- The library's table, from the condition that a row lays. -/
import Derived.Test.YtejojliljplcdaaGreatDoorRows
import Derived.Test.YtejojliljplcdaaGreatDoorTzI
import Derived.LaidMore
import Derived.OpenShut
import Derived.FnData
import Derived.Stop.Joined
namespace Go.Proofs.YtejojliljplcdaaGreatDoor
open Go.RowKit Go.ChangeShapes
set_option linter.unusedVariables false

theorem debT_eq {H : Type} : (Rows.laid_math_bits_deBruijn64tab : DataW H) = .agg (Lib.deBruijn64tab.map fun n => .lit (.int .u8 (n : Nat))) := rfl
theorem gDeb : Tryz.prog.globalNamed "math/bits.deBruijn64tab" = some 0 := by kernel_rfl
theorem tDeb : (Tryz.prog.globals[0]?).map (·.type) = some 128 := by kernel_rfl
theorem deb_of_laid {W : World} (h : laidMetH Tryz.prog [("math/bits.deBruijn64tab", Rows.laid_math_bits_deBruijn64tab)] W) : Deb W := by
  rw [MakeChecks.laidMetH_plain _ _ _ (by kernel_rfl)] at h
  obtain ⟨ps, ⟨g0, t0, cs0, f0, p0, q0, hg0, ht0, hv0, hd0, _, _⟩, _, _⟩ := h
  obtain rfl := Option.some.inj (gDeb.symm.trans hg0)
  obtain rfl := Option.some.inj (tDeb.symm.trans ht0)
  obtain ⟨xs, m1, _, hx, hlen, hn, hel⟩ := DataW.trod_array Tryz.underlying128 hd0
  have c5 : Tryz.prog.cellsOf 5 = 1 := by kernel_rfl
  rw [debT_eq] at hx
  simp only [Prod.mk.injEq, DataW.agg.injEq] at hx
  intro j hj
  have hj' : j < 64 := hj
  have h1 := hel j hj'
  rw [c5, Nat.mul_one] at h1
  obtain ⟨x, hxj⟩ : ∃ x, xs[j]? = some x := ⟨xs[j]'(by omega), List.getElem?_eq_getElem (by omega)⟩
  rw [hxj] at h1
  obtain ⟨n, e1, e2, _⟩ := DataW.trod_int Tryz.underlying5 h1
  have h2 : (xs.map (·.1))[j]? = some (.lit (.int .u8 n)) := by rw [List.getElem?_map, hxj, e2]; rfl
  rw [← hx.1, List.getElem?_map, List.getElem?_eq_getElem hj] at h2
  simp only [Option.map_some, Option.some.injEq, DataW.lit.injEq, Lit.int.injEq, true_and] at h2
  have h3 := World.var?_cell hg0 hv0 j
  have h4 : cs0[j]? = some (.int .u8 n) := by
    have h5 : cs0.toList[j]? = some (.int .u8 n) := by
      have h6 : (cs0.toList.drop j)[0]? = some (.int .u8 n) := by
        cases hd : cs0.toList.drop j with
        | nil => rw [hd] at e1; simp at e1
        | cons a l => rw [hd] at e1; simp at e1; simp [e1]
      rw [List.getElem?_drop] at h6
      simpa using h6
    simpa using h5
  rw [h3, h4, ← h2]
  simp [List.getD, List.getElem?_eq_getElem hj]
end Go.Proofs.YtejojliljplcdaaGreatDoor
