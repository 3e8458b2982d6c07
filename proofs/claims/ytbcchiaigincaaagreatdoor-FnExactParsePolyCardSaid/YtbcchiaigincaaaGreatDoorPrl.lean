/- ParsePoly: both sides; what the law's row tells of the library's variables. -/
import Derived.Test.YtbcchiaigincaaaGreatDoorPrj
import Derived.Test.YtbcchiaigincaaaGreatDoorPrp
import Derived.Test.YtbcchiaigincaaaGreatDoorRows
import Derived.LaidMore
import Derived.Lay
import Derived.OpenShut
import Derived.FnData
import Derived.Stop.LaidErr
namespace Go.Proofs.YtbcchiaigincaaaGreatDoor
open Go.RowKit Go.ChangeShapes
set_option linter.unusedVariables false

theorem ppO_bounds (t : List UInt8) : (ppO t).2.1.length ≤ 2000 ∧ totalL (ppO t).2.1 ≤ 100000 := by
  unfold ppO
  split
  · split
    · rename_i h
      have h1 := polF_of h
      exact ⟨polB_len h, Nat.le_trans h1.tot (by decide)⟩
    · exact ⟨Nat.zero_le _, Nat.zero_le _⟩
  · exact ⟨Nat.zero_le _, Nat.zero_le _⟩
theorem star_err : "*" ++ "errors.errorString" = "*errors.errorString" := by decide
theorem row_err (u : TypeId) (h : Tryz.prog.typeName? 3 u = some "*errors.errorString") : u = 115 :=
  typeName_ptr_named (nm := "errors.errorString") (by rw [star_err]; kernel_rfl) (by kernel_rfl) (by decide) u (by rw [star_err]; exact h)
theorem pp_of {W : World} (hL : laidMetH Tryz.prog Rows.fnExactParsePolyRow.laid W) (hsh : W.ShapedOpen Tryz.prog) : PP W := by
  rw [MakeChecks.laidMetH_plain _ _ _ (by kernel_rfl)] at hL
  have h2 := hL.tail.tail
  have h4 := h2.tail.tail
  have h5 := h4.tail
  obtain ⟨a1, s1, v1, _, _, _⟩ := laid_sentinel h4 (g := gRng) (by kernel_rfl) (ti := 49) (by kernel_rfl) Tryz.underlying49 row_err Tryz.underlying115 Tryz.underlying117 rfl rfl Tryz.underlying9 (by kernel_rfl) (by kernel_rfl)
  obtain ⟨a2, s2, v2, _, _, _⟩ := laid_sentinel h5 (g := gSyn) (by kernel_rfl) (ti := 49) (by kernel_rfl) Tryz.underlying49 row_err Tryz.underlying115 Tryz.underlying117 rfl rfl Tryz.underlying9 (by kernel_rfl) (by kernel_rfl)
  have c1 : W.cell? ⟨gRng, 0, none⟩ = some (.iface 115 (.pointer (some a1))) := by
    have h := World.var?_cell (g := gRng) (by kernel_rfl) v1 0
    simpa using h
  have c2 : W.cell? ⟨gSyn, 0, none⟩ = some (.iface 115 (.pointer (some a2))) := by
    have h := World.var?_cell (g := gSyn) (by kernel_rfl) v2 0
    simpa using h
  exact ⟨Tryz.splL.s1_3 W hsh, ⟨_, c2, .inr ⟨_, _, rfl⟩⟩, ⟨_, c1, .inr ⟨_, _, rfl⟩⟩,
    Lib.tabIs_of_head (g := 3) (k := .u64) (zs := Lib.pow10Tab) (by kernel_rfl) (by kernel_rfl) Tryz.underlying119 Tryz.underlying79 (by kernel_rfl) (by kernel_rfl) h2⟩
end Go.Proofs.YtbcchiaigincaaaGreatDoor
