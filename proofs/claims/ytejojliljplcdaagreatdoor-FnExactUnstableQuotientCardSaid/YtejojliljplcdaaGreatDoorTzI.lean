/- math/bits.TrailingZeros64, over the library's table. -/
import Derived.Test.YtejojliljplcdaaGreatDoorLamT
import Derived.Lib.TrailingZeros
import Derived.Shelf.Spec.TrailingZeros
namespace Go.Proofs.YtejojliljplcdaaGreatDoor
open Go.RowKit
set_option linter.unusedVariables false

/-- the library's table lies where its initialiser lays it -/
def Deb (w : World) : Prop := TabAt 0 Lib.deBruijn64tab w
theorem Deb.below {w w' : World} (h : Deb w) (hb : Below w.heap.size w w') : Deb w' := fun j hj => by
  have h1 := h j hj
  exact bcell hb (World.block_lt_of_cell? w _ h1) h1
theorem Deb.pos {w : World} (h : Deb w) : 1 ≤ w.heap.size := by
  have h1 := World.block_lt_of_cell? w _ (h 0 (by decide))
  exact h1
theorem Deb.belowB {w w' : World} {B : Nat} (h : Deb w) (hb : Below B w w') (h1 : 1 ≤ B) : Deb w' := fun j hj => (hb.cell (p := ⟨0, j, none⟩) h1).trans (h j hj)
theorem tz_any (x : Nat) (hx : x < 18446744073709551616) (hx0 : x ≠ 0) (w : World) (hT : Deb w) : Calls Tryz.prog 100 #[.int .u64 x] w (RetI (Lib.ctz 64 x : Nat) w) := by
  obtain ⟨hlow, hk⟩ := Lib.lowest_bit 64 x hx0 hx
  obtain ⟨hi, htab⟩ := Lib.deBruijn64_at _ hk
  have hcell := hT _ hi
  rw [htab] at hcell
  have key := tz64_key x _ hx hx0 hlow
  have hx1 : ((x : Int) == 0) = false := by simp; omega
  change Lib.ctz 64 x < 64 at hk
  obtain ⟨k, hkk⟩ : ∃ k, k = Lib.ctz 64 x := ⟨_, rfl⟩
  rw [← hkk] at hcell key hi hk ⊢
  obtain ⟨idx, hix⟩ : ∃ i, i = 2 ^ k * 285870213051353865 % 18446744073709551616 / 288230376151711744 := ⟨_, rfl⟩
  rw [← hix] at hcell key hi
  have HX := Lib.hid hx0
  clear hkk hix hlow htab hx0 hT
  go_enter Tryz.func100, Tryz.ntmps100
  go_wp2_with (simp only [key])
  go_ret
  exact ⟨rfl, rfl⟩
end Go.Proofs.YtejojliljplcdaaGreatDoor
