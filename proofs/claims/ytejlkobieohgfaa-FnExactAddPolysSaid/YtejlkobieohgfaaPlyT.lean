/- The law package's helpers on Poly. -/
import Derived.Test.YtejlkobieohgfaaPlyD
namespace Go.Proofs.Ytejlkobieohgfaa
open Go.RowKit
set_option linter.unusedVariables false

/-- a struct of a number and an owned list of lists comes back -/
def RetN (v : Int) (n : Nat) (xss : List (List Int)) (w : World) (e : Ending) (w' : World) : Prop :=
  ∃ A c, e = .returned (.agg #[.int .i64 v, .slice A n c]) ∧ OwnM w' w.heap.size w'.heap.size A n c xss ∧ Below w.heap.size w w'
def RetNC (v : Int) (n : Nat) (xss : List (List Int)) (k : Int) (w : World) (e : Ending) (w' : World) : Prop :=
  ∃ A c, e = .returned (.tuple #[.agg #[.int .i64 v, .slice A n c], .int .i64 k]) ∧ OwnM w' w.heap.size w'.heap.size A n c xss ∧ Below w.heap.size w w'

theorem szPoly_any (v : Int) (A : Option Addr) (c n B : Nat) (xss : List (List Int)) (w : World) (left : Int) (h : RdL w B A n c xss) (hB : B ≤ w.heap.size) (h0 : 0 ≤ left) (h1 : left ≤ 1048576) (hn : n ≤ 9223372036854775807) (hx : ∀ x ∈ xss, x.length ≤ 9223372036854775807) :
    Calls Try.prog 18 #[.agg #[.int .i64 v, .slice A n c], .int .i64 left] w (RetIb (szR left (n + totalL xss)) w) := by
  have hb0 : Below w.heap.size w (w.alloc (.cells #[.int .i64 v, .slice A n c] 39)) := (Below.refl _ _).alloc (Nat.le_refl _) _
  have H := Lib.hid (szL_any A c n B xss _ left (h.below (hb0.mono hB)) h0 h1 hn hx); clear h hx
  have Hb0 := Lib.hid hb0; clear hb0
  by_cases hs : left < ((n + totalL xss : Nat) : Int)
  · rw [show szR left (n + totalL xss) = -1 from by unfold szR; rw [if_pos hs]] at H ⊢
    clear hs
    go_enter Try.func18, Try.ntmps18
    go_wp2_with fail
    refine (H.out).mono ?_
    rintro e w' ⟨rfl, rfl⟩
    go_wp2_with fail
    go_ret
    exact RetIb.mk (y := -1) rfl Hb0.out
  · obtain ⟨r, hr⟩ : ∃ r, r = szR left (n + totalL xss) := ⟨_, rfl⟩
    have hr0 : 0 ≤ r := by rw [hr]; unfold szR; rw [if_neg hs]; omega
    rw [← hr] at H ⊢
    clear hs hr
    go_enter Try.func18, Try.ntmps18
    go_wp2_with fail
    refine (H.out).mono ?_
    rintro e w' ⟨rfl, rfl⟩
    go_wp2_with fail
    go_ret
    exact RetIb.mk (y := r) rfl Hb0.out

theorem toPoly_any (v : Int) (A : Option Addr) (c n : Nat) (xss : List (List Int)) (w : World) (h : RdL w w.heap.size A n c xss) (hn : n ≤ 2000000) (ht : totalL xss ≤ 2000000) :
    Calls Try.prog 20 #[.agg #[.int .i64 v, .slice A n c]] w (RetN v n xss w) := by
  obtain ⟨w0, hw0⟩ : ∃ w0, w0 = ((w.alloc (.cells #[.int .i64 v, .slice A n c] 39)).alloc (.cells #[.int .i64 0, .slice none 0 0] 28)).alloc (.cells #[.int .i64 v, .slice none 0 0] 28) := ⟨_, rfl⟩
  have hb0 : Below w.heap.size w w0 := by rw [hw0]; exact (((Below.refl _ _).alloc (Nat.le_refl _) _).alloc (by simp) _).alloc (by simp; omega) _
  have H := Lib.hid (toL_any A c n xss w0 ((h.below hb0).mono hb0.size) hn ht); clear h
  have Hb0 := Lib.hid hb0; clear hb0
  have Hw := Lib.hid hw0
  have hsz : w0.heap.size = w.heap.size + 3 := by rw [hw0]; simp
  have c1 : w0.cell? ⟨w.heap.size + 1, 1, none⟩ = some (.slice none 0 0) := by rw [hw0]; exact old_at (by simp) (new_at (by simp) rfl)
  have c0 : w0.cell? ⟨w.heap.size + 1, 0, none⟩ = some (.int .i64 0) := by rw [hw0]; exact old_at (by simp) (new_at (by simp) rfl)
  have f1 : w0.frozen? ⟨w.heap.size + 1, 1, none⟩ = false := by rw [hw0]; exact old_free (by simp) (new_free (by simp))
  have f0 : w0.frozen? ⟨w.heap.size + 1, 0, none⟩ = false := by rw [hw0]; exact old_free (by simp) (new_free (by simp))
  have c2 : w0.cell? ⟨w.heap.size + 2, 1, none⟩ = some (.slice none 0 0) := by rw [hw0]; exact new_at (by simp) rfl
  have c3 : w0.cell? ⟨w.heap.size + 2, 0, none⟩ = some (.int .i64 v) := by rw [hw0]; exact new_at (by simp) rfl
  have f2 : w0.frozen? ⟨w.heap.size + 2, 1, none⟩ = false := by rw [hw0]; exact new_free (by simp)
  have HC := Lib.hid (And.intro hsz (And.intro c1 (And.intro f1 (And.intro c2 (And.intro f2 (And.intro c0 (And.intro f0 c3)))))))
  clear hsz c1 f1 c2 f2 c0 f0 c3 hw0
  go_enter Try.func20, Try.ntmps20
  go_wp2_with fail
  rw [← Hw.out]
  refine H.out.mono ?_
  rintro e w1 ⟨A1, c1, rfl, ho1, hb1⟩
  obtain ⟨hsz, k1, f1, k2, f2, k0, f0, k3⟩ := HC.out
  have k1' := bcell hb1 (by omega) k1
  have f1' := bfree hb1 (by omega) f1
  have k2' := bcell hb1 (by omega) k2
  have f2' := bfree hb1 (by omega) f2
  have k0' := bcell hb1 (by omega) k0
  have f0' := bfree hb1 (by omega) f0
  have k3' := bcell hb1 (by omega) k3
  have HO := Lib.hid (OwnM.mid (B := w.heap.size) (K := w0.heap.size) (ho1.m (Nat.le_refl _)) (((mid_setCell (p := ⟨w.heap.size + 2, 1, none⟩) (.slice A1 n c1) (by rw [hsz]; constructor <;> simp)).trans (mid_setCell (p := ⟨w.heap.size + 1, 0, none⟩) (.int .i64 v) (by rw [hsz]; constructor <;> simp))).trans (mid_setCell (p := ⟨w.heap.size + 1, 1, none⟩) (.slice A1 n c1) (by rw [hsz]; constructor <;> simp))) (Nat.le_refl _))
  have HB := Lib.hid ((((Hb0.out.trans (hb1.mono Hb0.out.size)).setCell (p := ⟨w.heap.size + 2, 1, none⟩) (by simp) (.slice A1 n c1)).setCell (p := ⟨w.heap.size + 1, 0, none⟩) (by simp) (.int .i64 v)).setCell (p := ⟨w.heap.size + 1, 1, none⟩) (by simp) (.slice A1 n c1))
  have Hsz := Lib.hid (And.intro hsz hb1.size)
  clear k1 f1 k2 f2 hb1 ho1 hsz k0 f0 k3
  have hr0 : (((w1.setCell ⟨w.heap.size + 1 + 1, 1, none⟩ (.slice A1 n c1)).setCell ⟨w.heap.size + 1, 0, none⟩ (.int .i64 v)).setCell ⟨w.heap.size + 1, 1, none⟩ (.slice A1 n c1)).cell? ⟨w.heap.size + 1, 0, none⟩ = some (.int .i64 v) := by
    rw [World.cell?_setCell_other]
    · rw [World.cell?_setCell_same (u := .int .i64 0)]
      rw [World.cell?_setCell_other]
      · exact k0'
      · simp
    · simp
  have hr1 : (((w1.setCell ⟨w.heap.size + 1 + 1, 1, none⟩ (.slice A1 n c1)).setCell ⟨w.heap.size + 1, 0, none⟩ (.int .i64 v)).setCell ⟨w.heap.size + 1, 1, none⟩ (.slice A1 n c1)).cell? ⟨w.heap.size + 1, 1, none⟩ = some (.slice A1 n c1) := by
    rw [World.cell?_setCell_same (u := .slice none 0 0)]
    rw [World.cell?_setCell_other]
    · rw [World.cell?_setCell_other]
      · exact k1'
      · simp
    · simp
  go_wp2_with fail
  refine bodyPost_ret (v := .agg #[.int .i64 v, .slice A1 n c1]) (by simp [results, Try.results20, go_sem, hr0, hr1]) rfl ⟨A1, c1, rfl, HO.out.mono Hb0.out.size (by simp [World.setCell]), HB.out⟩

theorem eqPoly_any (v1 v2 : Int) (A1 A2 : Option Addr) (c1 c2 n m : Nat) (xs ys : List (List Int)) (w : World) (B1 B2 : Nat)
   (h1 : RdL w B1 A1 n c1 xs) (h2 : RdL w B2 A2 m c2 ys) (hB1 : B1 ≤ w.heap.size) (hB2 : B2 ≤ w.heap.size) (hb1 : n ≤ 1000000000000) (hb2 : m ≤ 1000000000000) (ht1 : totalL xs ≤ 1000000000000) (ht2 : totalL ys ≤ 1000000000000) :
    Calls Try.prog 22 #[.agg #[.int .i64 v1, .slice A1 n c1], .agg #[.int .i64 v2, .slice A2 m c2]] w (RetBb (decide (v1 = v2 ∧ xs = ys)) w) := by
  have hb0 : Below w.heap.size w ((w.alloc (.cells #[.int .i64 v1, .slice A1 n c1] 28)).alloc (.cells #[.int .i64 v2, .slice A2 m c2] 28)) := ((Below.refl _ _).alloc (Nat.le_refl _) _).alloc (by simp) _
  have H := Lib.hid (eqL_any A1 A2 c1 c2 n m xs ys _ B1 B2 (h1.below (hb0.mono hB1)) (h2.below (hb0.mono hB2)) hb1 hb2 ht1 ht2); clear h1 h2
  have Hb0 := Lib.hid hb0; clear hb0
  by_cases hv : v1 = v2
  · rw [show decide (v1 = v2 ∧ xs = ys) = decide (xs = ys) from by simp [hv]]
    have hne : (v1 != v2) = false := by simpa using hv
    clear hv
    cases hd : decide (xs = ys)
    all_goals
      rw [hd] at H; clear hd
      go_enter Try.func22, Try.ntmps22
      go_wp2_with fail
      refine H.out.mono ?_
      rintro e w1 ⟨rfl, q, rfl⟩
      go_wp2_with fail
      go_ret
      exact RetBb.mk rfl (below_drewN Hb0.out q)
  · rw [show decide (v1 = v2 ∧ xs = ys) = false from by simp [hv]]
    have hne : (v1 != v2) = true := by simpa using hv
    clear hv
    go_enter Try.func22, Try.ntmps22
    go_wp2_with fail
    go_ret
    exact RetBb.mk (b' := false) rfl Hb0.out

theorem markPoly_any (v : Int) (A : Option Addr) (c n : Nat) (xss : List (List Int)) (w : World) (B K : Nat) (m : Int) (h : OwnM w B K A n c xss) (hn : n ≤ 1000000000000) (ht : totalL xss ≤ 1000000000000) (h0 : 0 ≤ m) (h1 : m ≤ 1000000000) :
    Calls Try.prog 25 #[.agg #[.int .i64 v, .slice A n c], .int .i64 m] w (RetMarkM B K A n c (marksL m xss) (m + totalL xss) w) := by
  have hb0 : Below w.heap.size w (w.alloc (.cells #[.int .i64 v, .slice A n c] 28)) := (Below.refl _ _).alloc (Nat.le_refl _) _
  have H := Lib.hid (markM_any A c n xss _ B K m (h.below hb0) hn ht h0 h1); clear h
  have Hb0 := Lib.hid (Mid.of_below (B := B) (K := K) hb0); clear hb0
  go_enter Try.func25, Try.ntmps25
  go_wp2_with fail
  refine H.out.mono ?_
  rintro e w1 ⟨rfl, ho1, hm1⟩
  have HO := Lib.hid ho1; clear ho1
  have HM := Lib.hid (Hb0.out.trans hm1); clear hm1
  go_wp2_with fail
  go_ret
  exact RetMarkM.mk (y := m + totalL xss) rfl HO.out HM.out

theorem heldPoly_any (v : Int) (A : Option Addr) (c n : Nat) (xss : List (List Int)) (w : World) (B : Nat) (m : Int) (h : RdL w B A n c (marksL m xss)) (hB : B ≤ w.heap.size) (hn : n ≤ 1000000000000) (ht : totalL xss ≤ 1000000000000) (h0 : 0 ≤ m) (h1 : m ≤ 1000000000) :
    Calls Try.prog 26 #[.agg #[.int .i64 v, .slice A n c], .int .i64 m] w (RetIb (m + totalL xss) w) := by
  have hb0 : Below w.heap.size w (w.alloc (.cells #[.int .i64 v, .slice A n c] 28)) := (Below.refl _ _).alloc (Nat.le_refl _) _
  have H := Lib.hid (heldL_any A c n xss _ B m (h.below (hb0.mono hB)) hn ht h0 h1); clear h
  have Hb0 := Lib.hid hb0; clear hb0
  obtain ⟨r, hr⟩ : ∃ r, r = m + (totalL xss : Int) := ⟨_, rfl⟩
  have hr0 : 0 ≤ r := by rw [hr]; omega
  rw [← hr] at H ⊢
  clear hr
  go_enter Try.func26, Try.ntmps26
  go_wp2_with fail
  refine (H.out).mono ?_
  rintro e w' ⟨rfl, rfl⟩
  go_wp2_with fail
  go_ret
  exact RetIb.mk (y := r) rfl Hb0.out
end Go.Proofs.Ytejlkobieohgfaa
