/- Sums of term lists on both sides: copyOf, joined, slices.Equal, oddOnes, sumOf; l01Own, l01Own2, l01Sum. -/
import Derived.Test.YtoodhbafleemjaaGreatPush
import Derived.Test.YtoodhbafleemjaaGreatShift
namespace Go.Proofs.YtoodhbafleemjaaGreat
open Go.RowKit
set_option linter.unusedVariables false

theorem own_st (A : Option Addr) (n c B : Nat) (xs : List Int) (w : World) (h : RdS w B A n c xs) (hB : B ≤ w.heap.size) (hn : n ≤ 1000000000000) :
    Calls Tryz.prog 131 #[.slice A n c] w (RetO n xs w) := by
  have hb0 : Below w.heap.size w (w.alloc (.cells #[] 2)) := (Below.refl _ _).alloc (Nat.le_refl _) _
  have H := Lib.hid (h.below (hb0.mono hB)); clear h hb0
  have HS := Lib.hid (StS.start (Below.refl w.heap.size w) (Nat.le_refl _))
  go_enter Tryz.func131, Tryz.ntmps131
  go_wp2_with (at_builtin; refine wpList_joinI rfl (.tmp 3) (.tmp 4) rfl rfl rfl HS.out H.out (by omega) ?_)
  intro A' c' w' hst hg
  have HS' := Lib.hid hst; clear hst hg
  go_wp2_with fail
  go_ret
  exact RetO.mk2 (by omega) rfl HS'.out

/-- the outer row copied: the lists are read where they lay -/
def RetR (n : Nat) (xss : List (List Int)) (w : World) (e : Ending) (w' : World) : Prop := ∃ A c, e = .returned (.slice A n c) ∧ OwnR w' w.heap.size w.heap.size A n c xss ∧ Below w.heap.size w w'
theorem rdL_v {w : World} {B : Nat} {A : Option Addr} {n c : Nat} {xss : List (List Int)} (h : RdL w B A n c xss) : ∃ vs, RdV w B A n c vs ∧ (∀ (j : Nat) (v : Value) (xs : List Int), vs[j]? = some v → xss[j]? = some xs → RdVal w B v xs) ∧ ∀ u ∈ vs, u.oneCell' = true := by
  obtain ⟨vs, h1, h2⟩ := h.rows
  refine ⟨vs, h1, h2, fun u hu => ?_⟩
  obtain ⟨j, hj, rfl⟩ := List.getElem_of_mem hu
  obtain ⟨_, _, _, e, _⟩ := h2 j vs[j] (xss[j]'(by rw [h.len, ← h1.len]; exact hj)) (List.getElem?_eq_getElem hj) (List.getElem?_eq_getElem _)
  rw [e]; rfl
theorem own2_any (A : Option Addr) (n c : Nat) (xss : List (List Int)) (w : World) (h : RdL w w.heap.size A n c xss) (hn : n ≤ 1000000000000) (ht : totalL xss ≤ 1000000000000) :
    Calls Tryz.prog 99 #[.slice A n c] w (RetL n xss w) := by
  have Hl := Lib.hid h.len
  have HT := Lib.hid ht; clear ht
  obtain ⟨B, hB⟩ : ∃ B, B = w.heap.size := ⟨_, rfl⟩
  have hst := StL.start (Below.refl w.heap.size w) (Nat.le_refl _)
  rw [← hB] at h hst
  have HBe := Lib.hid hB; clear hB
  have HS := Lib.hid hst.here; clear hst
  go_enter Tryz.func99, Tryz.ntmps99
  go_wp2_with fail
  rw [← HBe.out]
  go_loopw [3, 4] (fun o i wr => ∃ (k c' : Nat) (A' : Option Addr), k ≤ n ∧ i = .int .i64 k ∧ o = .slice A' k c' ∧ Hid (StL w B wr wr.heap.size A' k c' (xss.take k))) (fun _ i _ => n - (intOf i).toNat)
  case atStart => exact ⟨0, 0, _, Nat.zero_le _, rfl, rfl, by rw [HBe.out]; rw [HBe.out] at HS; exact HS⟩
  case round =>
    obtain ⟨k, c', A', hk, rfl, rfl, HS⟩ := hrel
    by_cases hlt : k < n
    · obtain ⟨ad, A1, n1, c1, x, rfl, _, hx, hc, hr⟩ := (h.below HS.out.bel).at_ hlt
      have hn1 : n1 ≤ 1000000000000 := by rw [← hr.len]; exact Nat.le_trans (len_le_total hx) HT.out
      have Ho := Lib.hid (own_st A1 n1 c1 B x _ hr HS.out.size hn1); clear hr
      go_wp2_with fail
      refine Ho.out.mono ?_
      rintro e w1 ⟨A2, c2, rfl, ho, hb⟩
      have N := Lib.hid ho
      have HS1 := Lib.hid (HS.out.call hb); clear ho hb
      go_wp2_with (at_builtin; refine wpList_pushL rfl (.tmp 12) (.tmp 18) rfl rfl rfl HS1.out N.out (by omega) ?_)
      intro A3 c3 w3 hs3 _ _
      have HS3 := Lib.hid hs3; clear hs3
      go_wp2_with fail
      go_roundw
      case rel => exact ⟨k + 1, c3, A3, by omega, by go_num, rfl, by rw [List.take_add_one, hx.out]; exact HS3⟩
      case measure => simp [intOf]; omega
    · obtain rfl : k = n := by omega
      go_wp2_with fail
      go_ret
      have h5 := HS.out
      rw [List.take_of_length_le (by rw [Hl.out]; omega), HBe.out] at h5
      exact h5.ret
end Go.Proofs.YtoodhbafleemjaaGreat
