/- Sums of term lists on both sides: copyOf, joined, slices.Equal, oddOnes, sumOf; l01Own, l01Own2, l01Sum. -/
import Derived.Test.YtdgcgcodjddddaaDoorPush
import Derived.Test.YtdgcgcodjddddaaDoorSums
namespace Go.Proofs.YtdgcgcodjddddaaDoor
open Go.RowKit
set_option linter.unusedVariables false

/-- a copy of integers -/
theorem copyI_st (A : Option Addr) (n c B : Nat) (xs : List Int) (w : World) (h : RdS w B A n c xs) (hB : B ≤ w.heap.size) (hn : n ≤ 1000000000000) :
    Calls Tryd.prog 98 #[.slice A n c] w (RetO n xs w) := by
  have hb0 : Below w.heap.size w (w.alloc (.cells #[] 2)) := (Below.refl _ _).alloc (Nat.le_refl _) _
  have H := Lib.hid (h.below (hb0.mono hB)); clear h hb0
  have HS := Lib.hid (StS.start (Below.refl w.heap.size w) (Nat.le_refl _))
  go_enter Tryd.func98, Tryd.ntmps98
  go_wp2_with (at_builtin; refine wpList_joinI rfl (.tmp 3) (.tmp 4) rfl rfl rfl HS.out H.out (by omega) ?_)
  intro A' c' w' hst hg
  have HS' := Lib.hid hst; clear hst hg
  go_wp2_with fail
  go_ret
  exact RetO.mk2 (by omega) rfl HS'.out
theorem own_st (A : Option Addr) (n c B : Nat) (xs : List Int) (w : World) (h : RdS w B A n c xs) (hB : B ≤ w.heap.size) (hn : n ≤ 1000000000000) :
    Calls Tryd.prog 65 #[.slice A n c] w (RetO n xs w) := by
  have hb0 : Below w.heap.size w (w.alloc (.cells #[] 2)) := (Below.refl _ _).alloc (Nat.le_refl _) _
  have H := Lib.hid (h.below (hb0.mono hB)); clear h hb0
  have HS := Lib.hid (StS.start (Below.refl w.heap.size w) (Nat.le_refl _))
  go_enter Tryd.func65, Tryd.ntmps65
  go_wp2_with (at_builtin; refine wpList_joinI rfl (.tmp 3) (.tmp 4) rfl rfl rfl HS.out H.out (by omega) ?_)
  intro A' c' w' hst hg
  have HS' := Lib.hid hst; clear hst hg
  go_wp2_with fail
  go_ret
  exact RetO.mk2 (by omega) rfl HS'.out

/-- the outer row copied: the lists are read where they lay -/
def RetR (n : Nat) (xss : List (List Int)) (w : World) (e : Ending) (w' : World) : Prop := ∃ A c, e = .returned (.slice A n c) ∧ OwnR w' w.heap.size w.heap.size A n c xss ∧ Below w.heap.size w w'
theorem rdL_v {w : World} {B : Nat} {A : Option Addr} {n c : Nat} {xss : List (List Int)} (h : RdL w B A n c xss) : ∃ vs, RdV w B A n c vs ∧ (∀ (j : Nat) (v : Value) (xs : List Int), vs[j]? = some v → xss[j]? = some xs → RdVal w B v xs) ∧ ∀ u ∈ vs, u.oneCell' = true := by
  obtain ⟨vs, h1, h2⟩ := h.rows
  refine ⟨vs, h1, h2, fun u hu => ?_⟩
  obtain ⟨j, hj, rfl⟩ := List.getElem_of_mem hu
  obtain ⟨_, _, _, e, _⟩ := h2 j vs[j] (xss[j]'(by rw [h.len, ← h1.len]; exact hj)) (List.getElem?_eq_getElem hj) (List.getElem?_eq_getElem _)
  rw [e]; rfl
theorem copyL_any (A : Option Addr) (n c : Nat) (xss : List (List Int)) (w : World) (h : RdL w w.heap.size A n c xss) (hn : n ≤ 1000000000000) :
    Calls Tryd.prog 95 #[.slice A n c] w (RetR n xss w) := by
  have hl := h.len
  obtain ⟨vs, h1, h2, h3⟩ := rdL_v h
  clear h
  have hb0 : Below w.heap.size w (w.alloc (.cells #[] 49)) := (Below.refl _ _).alloc (Nat.le_refl _) _
  have H := Lib.hid (h1.below hb0)
  have H2 := Lib.hid (And.intro hl (And.intro h2 h3)); clear h1 h2 h3 hl
  have HO := Lib.hid (ownV_empty w w.heap.size 49 (Nat.le_refl _))
  have HB := Lib.hid hb0; clear hb0
  go_enter Tryd.func95, Tryd.ntmps95
  go_wp2_with (at_builtin; refine wpList_appV eltL rfl (.tmp 3) (.tmp 4) rfl rfl rfl HO.out H.out H2.out.2.2 (by omega) (by decide) (by simp) ?_)
  intro A' c' w' ho hg _
  have HO' := Lib.hid ho; clear ho
  have HB' := Lib.hid (HB.out.grown hg HB.out.size HO.out.row); clear hg
  go_wp2_with fail
  go_ret
  refine ⟨A', c', by simp, ⟨H2.out.1, vs, by simpa using HO'.out, fun j v xs hv hx => (H2.out.2.1 j v xs hv hx).below HB'.out⟩, HB'.out⟩

theorem equal_any (A1 A2 : Option Addr) (c1 c2 n m B1 B2 : Nat) (xs ys : List Int) (w : World)
   (h1 : RdS w B1 A1 n c1 xs) (h2 : RdS w B2 A2 m c2 ys) (hb1 : n ≤ 1000000000000) (hb2 : m ≤ 1000000000000) :
    Calls Tryd.prog 97 #[.slice A1 n c1, .slice A2 m c2] w (RetB (decide (xs = ys)) w) := by
  by_cases hl : n = m
  · subst hl
    go_enter Tryd.func97, Tryd.ntmps97
    go_wp2
    go_loopw [13] (fun i wr => ∃ k : Nat, k ≤ n ∧ i = .int .i64 k ∧ Hid (xs.take k = ys.take k) ∧ ∃ q, wr = w.drewN q) (fun i _ => n - (intOf i).toNat)
    case atStart => exact ⟨0, Nat.zero_le _, rfl, Lib.hid (by simp), 0, rfl⟩
    case round =>
      obtain ⟨k, hk, rfl, htk, q, rfl⟩ := hrel
      by_cases hlt : k < n
      · obtain ⟨ad1, x, rfl, _, hx, hc1⟩ := h1.at_ hlt
        obtain ⟨ad2, y, rfl, _, hy, hc2⟩ := h2.at_ hlt
        by_cases hxy : x = y
        · subst hxy
          have hne1 : (x != x) = false := by simp
          go_wp2
          go_quiet (fail)
          go_wp2
          go_roundw
          case rel => exact ⟨k+1, by omega, by go_num, Lib.hid (take_succ_eq htk hx hy), (by first | exact ⟨_, rfl⟩ | exact ⟨_, World.drewN_drewN _ _ _⟩ | (simp only [World.drewN_drewN]; exact ⟨_, rfl⟩))⟩
          case measure => simp [intOf]; omega
        · skip
          have hne1 : (x == y) = false := by simpa using hxy
          have hne2 : (x != y) = true := by simpa using hxy
          clear hxy
          go_wp2
          go_quiet (fail)
          go_wp2
          go_ret
          refine RetB.mk (b' := false) (decide_eq_false ?_).symm (by first | exact ⟨_, rfl⟩ | exact ⟨_, World.drewN_drewN _ _ _⟩ | (simp only [World.drewN_drewN]; exact ⟨_, rfl⟩))
          intro e
          subst e
          have h3 := hx.out
          rw [hy.out] at h3
          simp at h3
          simp [h3] at hne1
      · go_wp2
        go_ret
        refine RetB.mk (b' := true) (decide_eq_true ?_).symm (by first | exact ⟨_, rfl⟩ | exact ⟨_, World.drewN_drewN _ _ _⟩ | (simp only [World.drewN_drewN]; exact ⟨_, rfl⟩))
        obtain rfl : k = n := by omega
        have h3 := htk.out
        rw [List.take_of_length_le (by rw [h1.len]; omega), List.take_of_length_le (by rw [h2.len]; omega)] at h3
        exact h3
  · skip
    have hne1 : ((n : Int) == (m : Int)) = false := by simp; omega
    have hne2 : ((n : Int) != (m : Int)) = true := by simp; omega
    have hne3 : (n == m) = false := by simp; omega
    go_enter Tryd.func97, Tryd.ntmps97
    go_wp2
    go_ret
    refine RetB.mk (b' := false) (decide_eq_false ?_).symm ⟨0, rfl⟩
    intro e
    subst e
    exact hl (by rw [← h1.len, ← h2.len])

end Go.Proofs.YtdgcgcodjddddaaDoor
