/- LambdaBasis and SphereBasis on both sides. -/
import Derived.Test.YtdgcgcodjddddaaDoorWords
namespace Go.Proofs.YtdgcgcodjddddaaDoor
open Go.RowKit
set_option linter.unusedVariables false

theorem l16Basis_any (m s n : Int) (w : World) (h0 : 0 ≤ s) (h7 : s ≤ 7) (hn0 : 0 ≤ n) (hn1 : n ≤ 11) (hm0 : 1 ≤ m) (hm1 : m ≤ 100) :
    Calls Tryd.prog 35 #[.int .i64 m, .int .i64 s, .int .i64 n] w (RetL (lw s.toNat n.toNat (m - 1).toNat).length (lw s.toNat n.toNat (m - 1).toNat) w) := by
  have HO := Lib.hid (own_empty w w.heap.size (Nat.le_refl _))
  have HL : Hid (OwnL (w.alloc (.cells #[] 2)) w.heap.size w.heap.size none 0 0 []) := Lib.hid OwnL.nil
  have HB := Lib.hid ((Below.refl w.heap.size w).alloc (Nat.le_refl _) (.cells #[] 2))
  obtain ⟨ws, hws⟩ : ∃ ws, ws = lw s.toNat n.toNat (m - 1).toNat := ⟨_, rfl⟩
  obtain ⟨ln, hln⟩ : ∃ ln, ln = ws.length := ⟨_, rfl⟩
  have HW := Lib.hid hws
  rw [← hws, ← hln]
  have HLn := Lib.hid hln
  have hp := Lib.hid (Nat.pow_le_pow_right (show 0 < 12 by omega) (show s.toNat ≤ 7 by omega))
  clear hws hln
  go_enter Tryd.func35, Tryd.ntmps35
  go_wp2_with fail
  refine (l16Words_any s.toNat s n (m - 1) _ none 0 0 0 0 w.heap.size w.heap.size [] [] _ rfl h0 h7 hn0 hn1 (by omega) (by omega) HO.out HL.out (Nat.le_refl _) (by simp) (by omega) (by have := hp.out; omega)).mono ?_
  rintro e w1 ⟨A1, c1, rfl, ho1, hg1, _⟩
  rw [← HW.out] at ho1 ⊢
  rw [← HLn.out] at ho1 ⊢
  have HO1 := Lib.hid ho1
  have HB1 := Lib.hid (HB.out.trans ((Below.refl w.heap.size _).grown hg1 (by simp) (by intro g hg; cases hg))); clear ho1 hg1
  go_wp2_with fail
  go_ret
  exact ⟨_, _, rfl, by simpa using HO1.out, HB1.out⟩

theorem isFactor_any (n : Int) (w : World) : Calls Tryd.prog 84 #[.int .i64 n] w (RetP (inB n 0 11) w) := by
  go_enter Tryd.func84, Tryd.ntmps84
  go_wp2_with fail
  refine (in_any _ _ _ _).mono ?_
  rintro e w' ⟨rfl, rfl⟩
  go_wp2_with fail
  go_ret
  exact RetP.mk rfl

def lbokB (s n : Int) : Bool := inB s 0 7 && inB n 0 11
def lbL (s n : Int) : List (List Int) := if lbokB s n = true then lw s.toNat n.toNat n.toNat else []
def lbC (s n : Int) : Int := if lbokB s n = true then 0 else 2

end Go.Proofs.YtdgcgcodjddddaaDoor
