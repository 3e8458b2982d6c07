/- Sums of term lists on both sides: copyOf, joined, slices.Equal, oddOnes, sumOf; l01Own, l01Own2, l01Sum. -/
import Derived.Test.YtoigdiekkkkapaaPush
import Derived.Test.YtoigdiekkkkapaaShift
namespace Go.Proofs.Ytoigdiekkkkapaa
open Go.RowKit
set_option linter.unusedVariables false

theorem own_st (A : Option Addr) (n c B : Nat) (xs : List Int) (w : World) (h : RdS w B A n c xs) (hB : B ≤ w.heap.size) (hn : n ≤ 1000000000000) :
    Calls Try.prog 47 #[.slice A n c] w (RetO n xs w) := by
  have hb0 : Below w.heap.size w (w.alloc (.cells #[] 2)) := (Below.refl _ _).alloc (Nat.le_refl _) _
  have H := Lib.hid (h.below (hb0.mono hB)); clear h hb0
  have HS := Lib.hid (StS.start (Below.refl w.heap.size w) (Nat.le_refl _))
  go_enter Try.func47, Try.ntmps47
  go_wp2_with (at_builtin; refine wpList_joinI rfl (.tmp 3) (.tmp 4) rfl rfl rfl HS.out H.out (by omega) ?_)
  intro A' c' w' hst hg
  have HS' := Lib.hid hst; clear hst hg
  go_wp2_with fail
  go_ret
  exact RetO.mk2 (by omega) rfl HS'.out

/-- the outer row copied: the lists are read where they lay -/
def RetR (n : Nat) (xss : List (List Int)) (w : World) (e : Ending) (w' : World) : Prop := ∃ A c, e = .returned (.slice A n c) ∧ OwnR w' w.heap.size w.heap.size A n c xss ∧ Below w.heap.size w w'
theorem rdL_v {w : World} {B : Nat} {A : Option Addr} {n c : Nat} {xss : List (List Int)} (h : RdL w B A n c xss) : ∃ vs, RdV w B A n c vs ∧ (∀ (j : Nat) (v : Value) (xs : List Int), vs[j]? = some v → xss[j]? = some xs → RdVal w B v xs) ∧ ∀ u ∈ vs, u.oneCell' = true := by
  obtain ⟨vs, h1, h2⟩ := h.rows
  refine ⟨vs, h1, h2, fun u hu => ?_⟩
  obtain ⟨j, hj, rfl⟩ := List.getElem_of_mem hu
  obtain ⟨_, _, _, e, _⟩ := h2 j vs[j] (xss[j]'(by rw [h.len, ← h1.len]; exact hj)) (List.getElem?_eq_getElem hj) (List.getElem?_eq_getElem _)
  rw [e]; rfl
end Go.Proofs.Ytoigdiekkkkapaa
