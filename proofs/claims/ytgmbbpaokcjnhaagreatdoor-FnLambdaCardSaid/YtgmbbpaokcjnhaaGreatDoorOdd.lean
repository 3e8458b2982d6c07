/- Sums of term lists on both sides: copyOf, joined, slices.Equal, oddOnes, sumOf; l01Own, l01Own2, l01Sum. -/
import Derived.Test.YtgmbbpaokcjnhaaGreatDoorPush
import Derived.Test.YtgmbbpaokcjnhaaGreatDoorShift
namespace Go.Proofs.YtgmbbpaokcjnhaaGreatDoor
open Go.RowKit
set_option linter.unusedVariables false

/-- a copy of integers -/
theorem copyI_st (A : Option Addr) (n c B : Nat) (xs : List Int) (w : World) (h : RdS w B A n c xs) (hB : B ≤ w.heap.size) (hn : n ≤ 1000000000000) :
    Calls Tryz.prog 81 #[.slice A n c] w (RetO n xs w) := by
  have hb0 : Below w.heap.size w (w.alloc (.cells #[] 2)) := (Below.refl _ _).alloc (Nat.le_refl _) _
  have H := Lib.hid (h.below (hb0.mono hB)); clear h hb0
  have HS := Lib.hid (StS.start (Below.refl w.heap.size w) (Nat.le_refl _))
  go_enter Tryz.func81, Tryz.ntmps81
  go_wp2_with (at_builtin; refine wpList_joinI rfl (.tmp 3) (.tmp 4) rfl rfl rfl HS.out H.out (by omega) ?_)
  intro A' c' w' hst hg
  have HS' := Lib.hid hst; clear hst hg
  go_wp2_with fail
  go_ret
  exact RetO.mk2 (by omega) rfl HS'.out
theorem own_st (A : Option Addr) (n c B : Nat) (xs : List Int) (w : World) (h : RdS w B A n c xs) (hB : B ≤ w.heap.size) (hn : n ≤ 1000000000000) :
    Calls Tryz.prog 62 #[.slice A n c] w (RetO n xs w) := by
  have hb0 : Below w.heap.size w (w.alloc (.cells #[] 2)) := (Below.refl _ _).alloc (Nat.le_refl _) _
  have H := Lib.hid (h.below (hb0.mono hB)); clear h hb0
  have HS := Lib.hid (StS.start (Below.refl w.heap.size w) (Nat.le_refl _))
  go_enter Tryz.func62, Tryz.ntmps62
  go_wp2_with (at_builtin; refine wpList_joinI rfl (.tmp 3) (.tmp 4) rfl rfl rfl HS.out H.out (by omega) ?_)
  intro A' c' w' hst hg
  have HS' := Lib.hid hst; clear hst hg
  go_wp2_with fail
  go_ret
  exact RetO.mk2 (by omega) rfl HS'.out

/-- the outer row copied: the lists are read where they lay -/
def RetR (n : Nat) (xss : List (List Int)) (w : World) (e : Ending) (w' : World) : Prop := ∃ A c, e = .returned (.slice A n c) ∧ OwnR w' w.heap.size w.heap.size A n c xss ∧ Below w.heap.size w w'
theorem rdL_v {w : World} {B : Nat} {A : Option Addr} {n c : Nat} {xss : List (List Int)} (h : RdL w B A n c xss) : ∃ vs, RdV w B A n c vs ∧ (∀ (j : Nat) (v : Value) (xs : List Int), vs[j]? = some v → xss[j]? = some xs → RdVal w B v xs) ∧ ∀ u ∈ vs, u.oneCell' = true := by
  obtain ⟨vs, h1, h2⟩ := h.rows
  refine ⟨vs, h1, h2, fun u hu => ?_⟩
  obtain ⟨j, hj, rfl⟩ := List.getElem_of_mem hu
  obtain ⟨_, _, _, e, _⟩ := h2 j vs[j] (xss[j]'(by rw [h.len, ← h1.len]; exact hj)) (List.getElem?_eq_getElem hj) (List.getElem?_eq_getElem _)
  rw [e]; rfl
theorem copyL_any (A : Option Addr) (n c : Nat) (xss : List (List Int)) (w : World) (h : RdL w w.heap.size A n c xss) (hn : n ≤ 1000000000000) :
    Calls Tryz.prog 78 #[.slice A n c] w (RetR n xss w) := by
  have hl := h.len
  obtain ⟨vs, h1, h2, h3⟩ := rdL_v h
  clear h
  have hb0 : Below w.heap.size w (w.alloc (.cells #[] 35)) := (Below.refl _ _).alloc (Nat.le_refl _) _
  have H := Lib.hid (h1.below hb0)
  have H2 := Lib.hid (And.intro hl (And.intro h2 h3)); clear h1 h2 h3 hl
  have HO := Lib.hid (ownV_empty w w.heap.size 35 (Nat.le_refl _))
  have HB := Lib.hid hb0; clear hb0
  go_enter Tryz.func78, Tryz.ntmps78
  go_wp2_with (at_builtin; refine wpList_appV eltL rfl (.tmp 3) (.tmp 4) rfl rfl rfl HO.out H.out H2.out.2.2 (by omega) (by decide) (by simp) ?_)
  intro A' c' w' ho hg _
  have HO' := Lib.hid ho; clear ho
  have HB' := Lib.hid (HB.out.grown hg HB.out.size HO.out.row); clear hg
  go_wp2_with fail
  go_ret
  refine ⟨A', c', by simp, ⟨H2.out.1, vs, by simpa using HO'.out, fun j v xs hv hx => (H2.out.2.1 j v xs hv hx).below HB'.out⟩, HB'.out⟩

/-- one list behind another: the outer row is new, the lists are read where they lay -/
theorem joinedL_any (A1 A2 : Option Addr) (n1 c1 n2 c2 : Nat) (xss yss : List (List Int)) (w : World) (h1 : RdL w w.heap.size A1 n1 c1 xss) (h2 : RdL w w.heap.size A2 n2 c2 yss) (hn1 : n1 ≤ 1000000000000) (hn2 : n2 ≤ 1000000000000) :
    Calls Tryz.prog 69 #[.slice A1 n1 c1, .slice A2 n2 c2] w (RetR (n1 + n2) (xss ++ yss) w) := by
  have hl := h2.len
  obtain ⟨us, k1, k2, k3⟩ := rdL_v h2
  have K := Lib.hid (And.intro k1 (And.intro k2 (And.intro k3 hl))); clear k1 k2 k3 hl h2
  have H := Lib.hid h1; clear h1
  go_enter Tryz.func69, Tryz.ntmps69
  go_wp2_with fail
  refine (copyL_any A1 n1 c1 xss _ H.out hn1).mono ?_
  rintro e w1 ⟨A, c, rfl, ho, hb⟩
  obtain ⟨vs, o1, o2⟩ := ho.rows
  have O := Lib.hid (And.intro ho.len (And.intro o1 o2)); clear o1 o2 ho
  have HB := Lib.hid hb; clear hb
  go_wp2_with (at_builtin; refine wpList_appV eltL rfl (.tmp 6) (.tmp 7) rfl rfl rfl O.out.2.1 (K.out.1.below HB.out) K.out.2.2.1 (by omega) (by decide) HB.out.size ?_)
  intro A' c' w' ho hg _
  have HO' := Lib.hid ho; clear ho
  have HB' := Lib.hid (HB.out.grown hg HB.out.size O.out.2.1.row)
  have HB2 := Lib.hid ((Below.refl w.heap.size w1).grown hg HB.out.size O.out.2.1.row); clear hg
  go_wp2_with fail
  go_ret
  refine ⟨A', c', rfl, ⟨by rw [List.length_append, O.out.1, K.out.2.2.2], vs ++ us, HO'.out, fun j v xs hv hx => ?_⟩, HB'.out⟩
  have hvl : vs.length = xss.length := by rw [O.out.2.1.len, O.out.1]
  by_cases hj : j < vs.length
  · rw [List.getElem?_append_left hj] at hv
    rw [List.getElem?_append_left (by omega)] at hx
    exact (O.out.2.2 j v xs hv hx).below HB2.out
  · rw [List.getElem?_append_right (by omega)] at hv
    rw [List.getElem?_append_right (by omega), ← hvl] at hx
    exact (K.out.2.1 _ v xs hv hx).below HB'.out

theorem equal_any (A1 A2 : Option Addr) (c1 c2 n m B1 B2 : Nat) (xs ys : List Int) (w : World)
   (h1 : RdS w B1 A1 n c1 xs) (h2 : RdS w B2 A2 m c2 ys) (hb1 : n ≤ 1000000000000) (hb2 : m ≤ 1000000000000) :
    Calls Tryz.prog 80 #[.slice A1 n c1, .slice A2 m c2] w (RetB (decide (xs = ys)) w) := by
  by_cases hl : n = m
  · subst hl
    go_enter Tryz.func80, Tryz.ntmps80
    go_wp2
    go_loopw [13] (fun i wr => ∃ k : Nat, k ≤ n ∧ i = .int .i64 k ∧ Hid (xs.take k = ys.take k) ∧ ∃ q, wr = w.drewN q) (fun i _ => n - (intOf i).toNat)
    case atStart => exact ⟨0, Nat.zero_le _, rfl, Lib.hid (by simp), 0, rfl⟩
    case round =>
      obtain ⟨k, hk, rfl, htk, q, rfl⟩ := hrel
      by_cases hlt : k < n
      · obtain ⟨ad1, x, rfl, _, hx, hc1⟩ := h1.at_ hlt
        obtain ⟨ad2, y, rfl, _, hy, hc2⟩ := h2.at_ hlt
        by_cases hxy : x = y
        · subst hxy
          have hne1 : (x != x) = false := by simp
          go_wp2
          go_quiet (fail)
          go_wp2
          go_roundw
          case rel => exact ⟨k+1, by omega, by go_num, Lib.hid (take_succ_eq htk hx hy), (by first | exact ⟨_, rfl⟩ | exact ⟨_, World.drewN_drewN _ _ _⟩ | (simp only [World.drewN_drewN]; exact ⟨_, rfl⟩))⟩
          case measure => simp [intOf]; omega
        · skip
          have hne1 : (x == y) = false := by simpa using hxy
          have hne2 : (x != y) = true := by simpa using hxy
          clear hxy
          go_wp2
          go_quiet (fail)
          go_wp2
          go_ret
          refine RetB.mk (b' := false) (decide_eq_false ?_).symm (by first | exact ⟨_, rfl⟩ | exact ⟨_, World.drewN_drewN _ _ _⟩ | (simp only [World.drewN_drewN]; exact ⟨_, rfl⟩))
          intro e
          subst e
          have h3 := hx.out
          rw [hy.out] at h3
          simp at h3
          simp [h3] at hne1
      · go_wp2
        go_ret
        refine RetB.mk (b' := true) (decide_eq_true ?_).symm (by first | exact ⟨_, rfl⟩ | exact ⟨_, World.drewN_drewN _ _ _⟩ | (simp only [World.drewN_drewN]; exact ⟨_, rfl⟩))
        obtain rfl : k = n := by omega
        have h3 := htk.out
        rw [List.take_of_length_le (by rw [h1.len]; omega), List.take_of_length_le (by rw [h2.len]; omega)] at h3
        exact h3
  · skip
    have hne1 : ((n : Int) == (m : Int)) = false := by simp; omega
    have hne2 : ((n : Int) != (m : Int)) = true := by simp; omega
    have hne3 : (n == m) = false := by simp; omega
    go_enter Tryz.func80, Tryz.ntmps80
    go_wp2
    go_ret
    refine RetB.mk (b' := false) (decide_eq_false ?_).symm ⟨0, rfl⟩
    intro e
    subst e
    exact hl (by rw [← h1.len, ← h2.len])

theorem own2_any (A : Option Addr) (n c : Nat) (xss : List (List Int)) (w : World) (h : RdL w w.heap.size A n c xss) (hn : n ≤ 1000000000000) (ht : totalL xss ≤ 1000000000000) :
    Calls Tryz.prog 45 #[.slice A n c] w (RetL n xss w) := by
  have Hl := Lib.hid h.len
  have HT := Lib.hid ht; clear ht
  obtain ⟨B, hB⟩ : ∃ B, B = w.heap.size := ⟨_, rfl⟩
  have hst := StL.start (Below.refl w.heap.size w) (Nat.le_refl _)
  rw [← hB] at h hst
  have HBe := Lib.hid hB; clear hB
  have HS := Lib.hid hst.here; clear hst
  go_enter Tryz.func45, Tryz.ntmps45
  go_wp2_with fail
  rw [← HBe.out]
  go_loopw [3, 4] (fun o i wr => ∃ (k c' : Nat) (A' : Option Addr), k ≤ n ∧ i = .int .i64 k ∧ o = .slice A' k c' ∧ Hid (StL w B wr wr.heap.size A' k c' (xss.take k))) (fun _ i _ => n - (intOf i).toNat)
  case atStart => exact ⟨0, 0, _, Nat.zero_le _, rfl, rfl, by rw [HBe.out]; rw [HBe.out] at HS; exact HS⟩
  case round =>
    obtain ⟨k, c', A', hk, rfl, rfl, HS⟩ := hrel
    by_cases hlt : k < n
    · obtain ⟨ad, A1, n1, c1, x, rfl, _, hx, hc, hr⟩ := (h.below HS.out.bel).at_ hlt
      have hn1 : n1 ≤ 1000000000000 := by rw [← hr.len]; exact Nat.le_trans (len_le_total hx) HT.out
      have Ho := Lib.hid (own_st A1 n1 c1 B x _ hr HS.out.size hn1); clear hr
      go_wp2_with fail
      refine Ho.out.mono ?_
      rintro e w1 ⟨A2, c2, rfl, ho, hb⟩
      have N := Lib.hid ho
      have HS1 := Lib.hid (HS.out.call hb); clear ho hb
      go_wp2_with (at_builtin; refine wpList_pushL rfl (.tmp 12) (.tmp 18) rfl rfl rfl HS1.out N.out (by omega) ?_)
      intro A3 c3 w3 hs3 _ _
      have HS3 := Lib.hid hs3; clear hs3
      go_wp2_with fail
      go_roundw
      case rel => exact ⟨k + 1, c3, A3, by omega, by go_num, rfl, by rw [List.take_add_one, hx.out]; exact HS3⟩
      case measure => simp [intOf]; omega
    · obtain rfl : k = n := by omega
      go_wp2_with fail
      go_ret
      have h5 := HS.out
      rw [List.take_of_length_le (by rw [Hl.out]; omega), HBe.out] at h5
      exact h5.ret
end Go.Proofs.YtgmbbpaokcjnhaaGreatDoor
