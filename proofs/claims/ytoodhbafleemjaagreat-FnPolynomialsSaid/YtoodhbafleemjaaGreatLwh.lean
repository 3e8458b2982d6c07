/- The helpers of the great laws: likeInts, same9, poly9, sum, big. -/
import Derived.Test.YtoodhbafleemjaaGreatLawK
import Derived.Test.YtoodhbafleemjaaGreatPly
import Derived.Test.YtoodhbafleemjaaGreatFrC
namespace Go.Proofs.YtoodhbafleemjaaGreat
open Go.RowKit
set_option linter.unusedVariables false

theorem likeI_any (A1 A2 : Option Addr) (c1 c2 n m : Nat) (xs ys : List Int) (w : World) (B1 B2 : Nat)
   (h1 : RdS w B1 A1 n c1 xs) (h2 : RdS w B2 A2 m c2 ys) (hb1 : n ≤ 1000000000000) (hb2 : m ≤ 1000000000000) :
    Calls Tryz.prog 37 #[.slice A1 n c1, .slice A2 m c2] w (RetB (decide (xs = ys)) w) := by
  by_cases hl : n = m
  · subst hl
    go_enter Tryz.func37, Tryz.ntmps37
    go_wp2
    go_loopw [5] (fun i wr => ∃ k : Nat, k ≤ n ∧ i = .int .i64 k ∧ Hid (xs.take k = ys.take k) ∧ ∃ q, wr = w.drewN q) (fun i _ => n - (intOf i).toNat)
    case atStart => exact ⟨0, Nat.zero_le _, rfl, Lib.hid (by simp), 0, rfl⟩
    case round =>
      obtain ⟨k, hk, rfl, htk, q, rfl⟩ := hrel
      by_cases hlt : k < n
      · obtain ⟨ad1, x, rfl, _, hx, hc1⟩ := h1.at_ hlt
        obtain ⟨ad2, y, rfl, _, hy, hc2⟩ := h2.at_ hlt
        by_cases hxy : x = y
        · subst hxy
          go_wp2
          go_quiet (fail)
          go_wp2
          go_roundw
          case rel => exact ⟨k+1, by omega, by go_num, Lib.hid (take_succ_eq htk hx hy), (by first | exact ⟨_, rfl⟩ | exact ⟨_, World.drewN_drewN _ _ _⟩ | (simp only [World.drewN_drewN]; exact ⟨_, rfl⟩))⟩
          case measure => simp [intOf]; omega
        · skip
          have hne1 : (x == y) = false := by simpa using hxy
          have hne2 : (x != y) = true := by simpa using hxy
          clear hxy
          go_wp2
          go_quiet (fail)
          go_wp2
          go_ret
          refine RetB.mk (b' := false) (decide_eq_false ?_).symm (by first | exact ⟨_, rfl⟩ | exact ⟨_, World.drewN_drewN _ _ _⟩ | (simp only [World.drewN_drewN]; exact ⟨_, rfl⟩))
          intro e
          subst e
          have h3 := hx.out
          rw [hy.out] at h3
          simp at h3
          simp [h3] at hne1
      · go_wp2
        go_ret
        refine RetB.mk (b' := true) (decide_eq_true ?_).symm (by first | exact ⟨_, rfl⟩ | exact ⟨_, World.drewN_drewN _ _ _⟩ | (simp only [World.drewN_drewN]; exact ⟨_, rfl⟩))
        obtain rfl : k = n := by omega
        have h3 := htk.out
        rw [List.take_of_length_le (by rw [h1.len]; omega), List.take_of_length_le (by rw [h2.len]; omega)] at h3
        exact h3
  · skip
    have hne1 : ((n : Int) == (m : Int)) = false := by simp; omega
    have hne2 : ((n : Int) != (m : Int)) = true := by simp; omega
    have hne3 : (n == m) = false := by simp; omega
    go_enter Tryz.func37, Tryz.ntmps37
    go_wp2
    go_ret
    refine RetB.mk (b' := false) (decide_eq_false ?_).symm ⟨0, rfl⟩
    intro e
    subst e
    exact hl (by rw [← h1.len, ← h2.len])

theorem same9_any (A1 A2 : Option Addr) (c1 c2 n m : Nat) (xs ys : List (List Int)) (w : World) (B1 B2 : Nat)
   (h1 : RdL w B1 A1 n c1 xs) (h2 : RdL w B2 A2 m c2 ys) (hb1 : n ≤ 1000000000000) (hb2 : m ≤ 1000000000000) (ht1 : totalL xs ≤ 1000000000000) (ht2 : totalL ys ≤ 1000000000000) :
    Calls Tryz.prog 32 #[.slice A1 n c1, .slice A2 m c2] w (RetB (decide (xs = ys)) w) := by
  by_cases hl : n = m
  · subst hl
    go_enter Tryz.func32, Tryz.ntmps32
    go_wp2_with fail
    go_loopw [5] (fun i wr => ∃ k : Nat, k ≤ n ∧ i = .int .i64 k ∧ Hid (xs.take k = ys.take k) ∧ ∃ q, wr = w.drewN q) (fun i _ => n - (intOf i).toNat)
    case atStart => exact ⟨0, Nat.zero_le _, rfl, Lib.hid (by simp), 0, rfl⟩
    case round =>
      obtain ⟨k, hk, rfl, htk, q, rfl⟩ := hrel
      by_cases hlt : k < n
      · obtain ⟨ad1, A3, n3, c3, x, rfl, _, hx, hc1, hr1⟩ := h1.at_ hlt
        obtain ⟨ad2, A4, n4, c4, y, rfl, _, hy, hc2, hr2⟩ := h2.at_ hlt
        have hn3 : n3 ≤ 1000000000000 := by rw [← hr1.len]; exact Nat.le_trans (len_le_total hx) ht1
        have hn4 : n4 ≤ 1000000000000 := by rw [← hr2.len]; exact Nat.le_trans (len_le_total hy) ht2
        have Hc := fun W : Nat => Lib.hid (likeI_any A3 A4 c3 c4 n3 n4 x y (w.drewN W) _ _ (hr1.drewN W) (hr2.drewN W) hn3 hn4)
        clear ht1 ht2
        by_cases hxy : x = y
        · have hd : decide (x = y) = true := decide_eq_true hxy
          subst hxy
          go_wp2_with fail
          go_quiet ((go_at_call 37; first | exact Calls.quiet_of ((Hc _).out) | exact quiet_add ((Hc _).out)))
          go_wp2_with fail
          go_roundw
          case rel => exact ⟨k+1, by omega, by go_num, Lib.hid (take_succ_eqL htk hx hy), (by first | exact ⟨_, rfl⟩ | exact ⟨_, World.drewN_drewN _ _ _⟩ | (simp only [World.drewN_drewN]; exact ⟨_, rfl⟩))⟩
          case measure => simp [intOf]; omega
        · have hd : decide (x = y) = false := decide_eq_false hxy
          have Hxy := Lib.hid hxy; clear hxy
          go_wp2_with fail
          go_quiet ((go_at_call 37; first | exact Calls.quiet_of ((Hc _).out) | exact quiet_add ((Hc _).out)))
          go_wp2_with fail
          go_ret
          refine RetB.mk (b' := false) (decide_eq_false ?_).symm (by first | exact ⟨_, rfl⟩ | exact ⟨_, World.drewN_drewN _ _ _⟩ | (simp only [World.drewN_drewN]; exact ⟨_, rfl⟩))
          intro e
          subst e
          have h3 := hx.out
          rw [hy.out] at h3
          injection h3 with h3
          exact Hxy.out h3.symm
      · go_wp2_with fail
        go_ret
        refine RetB.mk (b' := true) (decide_eq_true ?_).symm (by first | exact ⟨_, rfl⟩ | exact ⟨_, World.drewN_drewN _ _ _⟩ | (simp only [World.drewN_drewN]; exact ⟨_, rfl⟩))
        obtain rfl : k = n := by omega
        have h3 := htk.out
        rw [List.take_of_length_le (by rw [h1.len]; omega), List.take_of_length_le (by rw [h2.len]; omega)] at h3
        exact h3
  · skip
    have hne1 : ((n : Int) == (m : Int)) = false := by simp; omega
    have hne2 : ((n : Int) != (m : Int)) = true := by simp; omega
    have hne3 : (n == m) = false := by simp; omega
    go_enter Tryz.func32, Tryz.ntmps32
    go_wp2_with fail
    go_ret
    refine RetB.mk (b' := false) (decide_eq_false ?_).symm ⟨0, rfl⟩
    intro e
    subst e
    exact hl (by rw [← h1.len, ← h2.len])

theorem poly9_any (v1 v2 : Int) (A1 A2 : Option Addr) (c1 c2 n m : Nat) (xs ys : List (List Int)) (w : World) (B1 B2 : Nat)
   (h1 : RdL w B1 A1 n c1 xs) (h2 : RdL w B2 A2 m c2 ys) (hB1 : B1 ≤ w.heap.size) (hB2 : B2 ≤ w.heap.size) (hb1 : n ≤ 1000000000000) (hb2 : m ≤ 1000000000000) (ht1 : totalL xs ≤ 1000000000000) (ht2 : totalL ys ≤ 1000000000000) :
    Calls Tryz.prog 41 #[.agg #[.int .i64 v1, .slice A1 n c1], .agg #[.int .i64 v2, .slice A2 m c2]] w (RetBb (decide (v1 = v2 ∧ xs = ys)) w) := by
  have hb0 : Below w.heap.size w ((w.alloc (.cells #[.int .i64 v1, .slice A1 n c1] 26)).alloc (.cells #[.int .i64 v2, .slice A2 m c2] 26)) := ((Below.refl _ _).alloc (Nat.le_refl _) _).alloc (by simp) _
  have H := Lib.hid (same9_any A1 A2 c1 c2 n m xs ys _ B1 B2 (h1.below (hb0.mono hB1)) (h2.below (hb0.mono hB2)) hb1 hb2 ht1 ht2); clear h1 h2
  have Hb0 := Lib.hid hb0; clear hb0
  by_cases hv : v1 = v2
  · rw [show decide (v1 = v2 ∧ xs = ys) = decide (xs = ys) from by simp [hv]]
    have hne : (v1 == v2) = true := by simpa using hv
    clear hv
    cases hd : decide (xs = ys)
    all_goals
      rw [hd] at H; clear hd
      go_enter Tryz.func41, Tryz.ntmps41
      go_wp2_with fail
      refine H.out.mono ?_
      rintro e w1 ⟨rfl, q, rfl⟩
      go_wp2_with fail
      go_ret
      exact RetBb.mk rfl (below_drewN Hb0.out q)
  · rw [show decide (v1 = v2 ∧ xs = ys) = false from by simp [hv]]
    have hne : (v1 == v2) = false := by simpa using hv
    clear hv
    go_enter Tryz.func41, Tryz.ntmps41
    go_wp2_with fail
    go_ret
    exact RetBb.mk (b' := false) rfl Hb0.out

theorem bigLaw_any (A : Option Addr) (n c : Nat) (w : World) : Calls Tryz.prog 5 #[.slice A n c] w (RetP (decide (4096 < n)) w) := by
  by_cases h : (4096 : Int) < (n : Int)
  · go_enter Tryz.func5, Tryz.ntmps5
    go_wp2_with fail
    go_ret
    exact RetP.mk (b' := true) (decide_eq_true (by omega)).symm
  · go_enter Tryz.func5, Tryz.ntmps5
    go_wp2_with fail
    go_ret
    exact RetP.mk (b' := false) (decide_eq_false (by omega)).symm

/-- a box with a number and a list of lists that reads -/
structure BoxP (w : World) (q : Nat) (v : Int) (A : Option Addr) (n c : Nat) (xss : List (List Int)) : Prop where
  cs : Cells [(q, 0, .int .i64 v), (q, 1, .slice A n c)] w
  rd : RdL w w.heap.size A n c xss
theorem BoxP.ext {w w' : World} {q : Nat} {v : Int} {A : Option Addr} {n c : Nat} {xss : List (List Int)} (h : BoxP w q v A n c xss) (hb : Ext w w') : BoxP w' q v A n c xss := ⟨h.cs.below hb, (h.rd.below hb).mono hb.size⟩
theorem BoxP.c0 {w : World} {q : Nat} {v : Int} {A : Option Addr} {n c : Nat} {xss : List (List Int)} (h : BoxP w q v A n c xss) : w.cell? ⟨q, 0, none⟩ = some (.int .i64 v) := h.cs.at_ (by simp)
theorem BoxP.c1 {w : World} {q : Nat} {v : Int} {A : Option Addr} {n c : Nat} {xss : List (List Int)} (h : BoxP w q v A n c xss) : w.cell? ⟨q, 1, none⟩ = some (.slice A n c) := h.cs.at_ (by simp)
theorem BoxP.lt {w : World} {q : Nat} {v : Int} {A : Option Addr} {n c : Nat} {xss : List (List Int)} (h : BoxP w q v A n c xss) : q < w.heap.size := h.cs.lt (q, 0, .int .i64 v) (by simp)
theorem BoxP.new {w : World} {q : Nat} {v : Int} {A : Option Addr} {n c : Nat} {xss : List (List Int)} (h : RdL w w.heap.size A n c xss) (T : TypeId) (hq : q = w.heap.size) : BoxP (w.alloc (.cells #[.int .i64 v, .slice A n c] T)) q v A n c xss :=
  ⟨Cells.nil.alloc2 _ _ _ hq, (h.below ((Below.refl _ _).alloc (Nat.le_refl _) _)).mono (by simp)⟩
theorem Below.ext {B : Nat} {a w w' : World} (h : Below B a w) (hb : Ext w w') (hB : B ≤ w.heap.size) : Below B a w' := h.trans (hb.mono hB)
/-- nothing below the start has turned -/
structure From (w0 w : World) : Prop where
  b : Ext w0 w
theorem From.ext {w0 w w' : World} (h : From w0 w) (hb : Ext w w') : From w0 w' := ⟨h.b.trans hb⟩
/-- integers that read -/
structure IntsP (w : World) (A : Option Addr) (n c : Nat) (xs : List Int) : Prop where
  rd : RdS w w.heap.size A n c xs
theorem IntsP.ext {w w' : World} {A : Option Addr} {n c : Nat} {xs : List Int} (h : IntsP w A n c xs) (hb : Ext w w') : IntsP w' A n c xs := ⟨(h.rd.below hb).mono hb.size⟩
end Go.Proofs.YtoodhbafleemjaaGreat

/- laws.rows5, laws.poly5. -/
namespace Go.Proofs.YtoodhbafleemjaaGreat
open Go.RowKit
set_option linter.unusedVariables false

theorem rows5_any (A1 A2 : Option Addr) (c1 c2 n m : Nat) (xs ys : List (List Int)) (w : World) (B1 B2 : Nat)
   (h1 : RdL w B1 A1 n c1 xs) (h2 : RdL w B2 A2 m c2 ys) (hb1 : n ≤ 1000000000000) (hb2 : m ≤ 1000000000000) (ht1 : totalL xs ≤ 1000000000000) (ht2 : totalL ys ≤ 1000000000000) :
    Calls Tryz.prog 55 #[.slice A1 n c1, .slice A2 m c2] w (RetB (decide (xs = ys)) w) := by
  by_cases hl : n = m
  · subst hl
    go_enter Tryz.func55, Tryz.ntmps55
    go_wp2_with fail
    go_loopw [5] (fun i wr => ∃ k : Nat, k ≤ n ∧ i = .int .i64 k ∧ Hid (xs.take k = ys.take k) ∧ ∃ q, wr = w.drewN q) (fun i _ => n - (intOf i).toNat)
    case atStart => exact ⟨0, Nat.zero_le _, rfl, Lib.hid (by simp), 0, rfl⟩
    case round =>
      obtain ⟨k, hk, rfl, htk, q, rfl⟩ := hrel
      by_cases hlt : k < n
      · obtain ⟨ad1, A3, n3, c3, x, rfl, _, hx, hc1, hr1⟩ := h1.at_ hlt
        obtain ⟨ad2, A4, n4, c4, y, rfl, _, hy, hc2, hr2⟩ := h2.at_ hlt
        have hn3 : n3 ≤ 1000000000000 := by rw [← hr1.len]; exact Nat.le_trans (len_le_total hx) ht1
        have hn4 : n4 ≤ 1000000000000 := by rw [← hr2.len]; exact Nat.le_trans (len_le_total hy) ht2
        have Hc := fun W : Nat => Lib.hid (likeI_any A3 A4 c3 c4 n3 n4 x y (w.drewN W) _ _ (hr1.drewN W) (hr2.drewN W) hn3 hn4)
        clear ht1 ht2
        by_cases hxy : x = y
        · have hd : decide (x = y) = true := decide_eq_true hxy
          subst hxy
          go_wp2_with fail
          go_quiet ((go_at_call 37; first | exact Calls.quiet_of ((Hc _).out) | exact quiet_add ((Hc _).out)))
          go_wp2_with fail
          go_roundw
          case rel => exact ⟨k+1, by omega, by go_num, Lib.hid (take_succ_eqL htk hx hy), (by first | exact ⟨_, rfl⟩ | exact ⟨_, World.drewN_drewN _ _ _⟩ | (simp only [World.drewN_drewN]; exact ⟨_, rfl⟩))⟩
          case measure => simp [intOf]; omega
        · have hd : decide (x = y) = false := decide_eq_false hxy
          have Hxy := Lib.hid hxy; clear hxy
          go_wp2_with fail
          go_quiet ((go_at_call 37; first | exact Calls.quiet_of ((Hc _).out) | exact quiet_add ((Hc _).out)))
          go_wp2_with fail
          go_ret
          refine RetB.mk (b' := false) (decide_eq_false ?_).symm (by first | exact ⟨_, rfl⟩ | exact ⟨_, World.drewN_drewN _ _ _⟩ | (simp only [World.drewN_drewN]; exact ⟨_, rfl⟩))
          intro e
          subst e
          have h3 := hx.out
          rw [hy.out] at h3
          injection h3 with h3
          exact Hxy.out h3.symm
      · go_wp2_with fail
        go_ret
        refine RetB.mk (b' := true) (decide_eq_true ?_).symm (by first | exact ⟨_, rfl⟩ | exact ⟨_, World.drewN_drewN _ _ _⟩ | (simp only [World.drewN_drewN]; exact ⟨_, rfl⟩))
        obtain rfl : k = n := by omega
        have h3 := htk.out
        rw [List.take_of_length_le (by rw [h1.len]; omega), List.take_of_length_le (by rw [h2.len]; omega)] at h3
        exact h3
  · skip
    have hne1 : ((n : Int) == (m : Int)) = false := by simp; omega
    have hne2 : ((n : Int) != (m : Int)) = true := by simp; omega
    have hne3 : (n == m) = false := by simp; omega
    go_enter Tryz.func55, Tryz.ntmps55
    go_wp2_with fail
    go_ret
    refine RetB.mk (b' := false) (decide_eq_false ?_).symm ⟨0, rfl⟩
    intro e
    subst e
    exact hl (by rw [← h1.len, ← h2.len])

theorem poly5_any (v1 v2 : Int) (A1 A2 : Option Addr) (c1 c2 n m : Nat) (xs ys : List (List Int)) (w : World) (B1 B2 : Nat)
   (h1 : RdL w B1 A1 n c1 xs) (h2 : RdL w B2 A2 m c2 ys) (hB1 : B1 ≤ w.heap.size) (hB2 : B2 ≤ w.heap.size) (hb1 : n ≤ 1000000000000) (hb2 : m ≤ 1000000000000) (ht1 : totalL xs ≤ 1000000000000) (ht2 : totalL ys ≤ 1000000000000) :
    Calls Tryz.prog 9 #[.agg #[.int .i64 v1, .slice A1 n c1], .agg #[.int .i64 v2, .slice A2 m c2]] w (RetBb (decide (v1 = v2 ∧ xs = ys)) w) := by
  have hb0 : Below w.heap.size w ((w.alloc (.cells #[.int .i64 v1, .slice A1 n c1] 26)).alloc (.cells #[.int .i64 v2, .slice A2 m c2] 26)) := ((Below.refl _ _).alloc (Nat.le_refl _) _).alloc (by simp) _
  have H := Lib.hid (rows5_any A1 A2 c1 c2 n m xs ys _ B1 B2 (h1.below (hb0.mono hB1)) (h2.below (hb0.mono hB2)) hb1 hb2 ht1 ht2); clear h1 h2
  have Hb0 := Lib.hid hb0; clear hb0
  by_cases hv : v1 = v2
  · rw [show decide (v1 = v2 ∧ xs = ys) = decide (xs = ys) from by simp [hv]]
    have hne : (v1 == v2) = true := by simpa using hv
    clear hv
    cases hd : decide (xs = ys)
    all_goals
      rw [hd] at H; clear hd
      go_enter Tryz.func9, Tryz.ntmps9
      go_wp2_with fail
      refine H.out.mono ?_
      rintro e w1 ⟨rfl, q, rfl⟩
      go_wp2_with fail
      go_ret
      exact RetBb.mk rfl (below_drewN Hb0.out q)
  · rw [show decide (v1 = v2 ∧ xs = ys) = false from by simp [hv]]
    have hne : (v1 == v2) = false := by simpa using hv
    clear hv
    go_enter Tryz.func9, Tryz.ntmps9
    go_wp2_with fail
    go_ret
    exact RetBb.mk (b' := false) rfl Hb0.out
end Go.Proofs.YtoodhbafleemjaaGreat
