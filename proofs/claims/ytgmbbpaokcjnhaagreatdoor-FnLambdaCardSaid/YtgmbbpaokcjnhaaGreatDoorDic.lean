/- The dice of the laws. -/
import Derived.Test.YtgmbbpaokcjnhaaGreatDoorDrb
namespace Go.Proofs.YtgmbbpaokcjnhaaGreatDoor
open Go.RowKit
set_option linter.unusedVariables false

set_option maxRecDepth 100000 in
theorem below_any (s : Nat) (n : Int) (w : World) (h : Src w s) (hN : n < 9223372036854775808) : Calls Tryz.prog 23 #[.pointer (some ⟨s, 0, none⟩), .int .i64 n] w (RetNx s n w) := by
  by_cases hn : n < 1
  · go_enter Tryz.func23, Tryz.ntmps23
    go_wp2
    go_ret
    exact ⟨0, rfl, Int.le_refl _, .inr rfl, h, Mid.refl _ _ _, rfl⟩
  · obtain ⟨A, m, c, k, h0, hm, hk, hh, HB, HC⟩ := h.ex
    have c0 := HC.at_ (b := s) (o := 0) (V := .slice A m c) (by simp)
    have c1 := HC.at_ (b := s) (o := 1) (V := .int .i64 k) (by simp)
    have c2 := HC.at_ (b := s) (o := 2) (V := .int .u64 h0) (by simp)
    have f1 := HC.fr (b := s) (o := 1) (V := .int .i64 k) (by simp)
    have f2 := HC.fr (b := s) (o := 2) (V := .int .u64 h0) (by simp)
    obtain ⟨h1, e1, hh1⟩ := u64_nat (IntKind.u64.wrap (h0 * 6364136223846793005) + 1442695040888963407)
    have hq0 : (0 : Int) ≤ (h1 : Int) / 8589934592 := by omega
    obtain ⟨x, ex, hx⟩ := and24 hq0
    obtain ⟨W, hW⟩ : ∃ W, W = w.setCell ⟨s, 2, none⟩ (.int .u64 h1) := ⟨_, rfl⟩
    have HC1 : Cells [(s, 0, .slice A m c), (s, 1, .int .i64 k), (s, 2, .int .u64 h1)] W := by
      rw [hW]
      have := (HC.sub (M := [(s, 2, .int .u64 h0), (s, 0, .slice A m c), (s, 1, .int .i64 k)]) (by simp)).set (by simp) (.int .u64 h1)
      exact this.sub (by simp)
    have hsz : W.heap.size = w.heap.size := by rw [hW]; simp [World.setCell]
    have hM : Mid s (s + 1) w W := by rw [hW]; exact mid_setCell (p := ⟨s, 2, none⟩) _ ⟨Nat.le_refl _, Nat.lt_succ_self _⟩
    have HBW : RdB W s A m c := HB.below (hM.below (Nat.le_of_lt h.lt))
    have EW := Lib.hid hW; clear hW
    go_enter Tryz.func23, Tryz.ntmps23
    go_wp2_with fail
    rw [← EW.out]
    clear c0 c1 c2 f1 f2 HC
    have c0 := HC1.at_ (b := s) (o := 0) (V := .slice A m c) (by simp)
    have c1 := HC1.at_ (b := s) (o := 1) (V := .int .i64 k) (by simp)
    have f1 := HC1.fr (b := s) (o := 1) (V := .int .i64 k) (by simp)
    by_cases hlt : k < m
    · obtain ⟨ad, z, rfl, hbl, hz, hz0, hz1⟩ := HBW.cell k hlt
      have hwx : IntKind.i64.wrap ((x : Int) + z) = (x : Int) + z := by rw [IntKind.wrap_i64]; omega
      go_quiet (fail)
      go_wp2_with fail
      go_quiet (fail)
      go_wp2_with fail
      go_ret
      have hmd := mod_draw (x := (x : Int) + z) (n := n) (by omega)
      refine ⟨_, rfl, hmd.1, .inl hmd.2, ?_, ?_, ?_⟩
      · refine ⟨some ad, m, c, k + 1, h1, hm, hlt, hh1, (HBW.below (below_drewN (Below.refl _ _) _)).below ((mid_setCell (p := ⟨s, 1, none⟩) _ ⟨Nat.le_refl _, Nat.lt_succ_self _⟩).below (B := s) (K := s + 1) (by have := h.lt; have : (W.drewN 0).heap.size = W.heap.size := rfl; show s ≤ W.heap.size; omega)), ?_⟩
        exact (((HC1.drewN _).sub (M := [(s, 1, .int .i64 k), (s, 0, .slice (some ad) m c), (s, 2, .int .u64 h1)]) (by simp)).set (by simp) (.int .i64 ((k : Int) + 1))).sub (by simp)
      · exact (hM.trans (Mid.of_below (below_drewN (Below.refl _ _) _))).trans (mid_setCell (p := ⟨s, 1, none⟩) _ ⟨Nat.le_refl _, Nat.lt_succ_self _⟩)
      · rw [← hsz]; simp [World.setCell]
    · skip
      go_quiet (fail)
      go_wp2_with fail
      go_ret
      have hmd := mod_draw (x := (x : Int)) (n := n) (by omega)
      refine ⟨_, rfl, hmd.1, .inl hmd.2, ?_, hM.trans (Mid.of_below (below_drewN (Below.refl _ _) _)), hsz⟩
      exact ⟨A, m, c, k, h1, hm, hk, hh1, HBW.below (below_drewN (Below.refl _ _) _), HC1.drewN _⟩
set_option maxRecDepth 100000 in
theorem roll_any (A : Option Addr) (n c m : Nat) (w : World) (h : RdB w w.heap.size A n c) (hn : n ≤ 4096) (hm : m ≤ 100000) : Calls Tryz.prog 22 #[.slice A n c, .int .u64 (m : Int)] w (RetFm w) := by
  obtain ⟨s, hs⟩ : ∃ s, s = w.heap.size := ⟨_, rfl⟩
  have e0 : (m : Int) * 6257 + (n : Int) = ((m * 6257 + n : Nat) : Int) := by omega
  obtain ⟨w0, hw0⟩ : ∃ w0, w0 = w.alloc (.cells #[.slice A n c, .int .i64 0, .int .u64 ((m : Int) * 6257 + (n : Int))] 63) := ⟨_, rfl⟩
  have hb0 : Below w.heap.size w w0 := by rw [hw0]; exact (Below.refl _ _).alloc (Nat.le_refl _) _
  have C0 : Cells [(s, 0, .slice A n c), (s, 1, .int .i64 0), (s, 2, .int .u64 ((m * 6257 + n : Nat) : Int))] w0 := by
    rw [hw0, e0]
    refine ⟨fun x hx => ?_, fun x hx => ?_, fun x hx => ?_⟩ <;> simp only [List.mem_cons, List.not_mem_nil, or_false] at hx <;> rcases hx with rfl | rfl | rfl
    · exact new_at hs rfl
    · exact new_at hs rfl
    · exact new_at hs rfl
    · exact new_free hs
    · exact new_free hs
    · exact new_free hs
    all_goals simp [hs]
  have R0 : RdB w0 s A n c := by rw [hs]; exact h.below hb0
  have HB0 := Lib.hid (show Below s w w0 by rw [hs]; exact hb0)
  have HC0 := Lib.hid C0
  have Hs := Lib.hid hs
  have Hw0 := Lib.hid hw0
  clear C0 hb0 e0
  go_enter Tryz.func22, Tryz.ntmps22
  go_wp2_with fail
  rw [← Hw0.out, ← Hs.out]
  clear hs hw0
  go_loopw [6] (fun i wr => ∃ k h : Nat, k ≤ n ∧ i = .int .i64 k ∧ h < 18446744073709551616 ∧ Hid (Cells [(s, 0, .slice A n c), (s, 1, .int .i64 0), (s, 2, .int .u64 h)] wr) ∧ Hid (Below s w wr)) (fun i _ => n - (intOf i).toNat)
  case atStart => exact ⟨0, m * 6257 + n, Nat.zero_le _, rfl, by omega, HC0, HB0⟩
  case round =>
    clear HC0 HB0
    obtain ⟨k, h1, hk, rfl, hh1, HC, HB⟩ := hrel
    by_cases hlt : k < n
    · obtain ⟨ad, z, rfl, hbl, hz, hz0, hz1⟩ := (h.below (by rw [← Hs.out]; exact HB.out)).cell k hlt
      have c2 := HC.out.at_ (b := s) (o := 2) (V := .int .u64 h1) (by simp)
      have f2 := HC.out.fr (b := s) (o := 2) (V := .int .u64 h1) (by simp)
      have hwz : IntKind.u64.wrap z = z := by rw [IntKind.wrap_u64]; omega
      obtain ⟨h2, e2, hh2⟩ := u64_nat (IntKind.u64.wrap (IntKind.u64.wrap (h1 * 1099511628211) + z) + 5)
      go_wp2_with fail
      go_region
      have HC2 := Lib.hid (show Cells [(s, 0, .slice (some ad) n c), (s, 1, .int .i64 0), (s, 2, .int .u64 h2)] (wr.setCell ⟨s, 2, none⟩ (.int .u64 h2)).drew from
        (((HC.out.sub (M := [(s, 2, .int .u64 h1), (s, 0, .slice (some ad) n c), (s, 1, .int .i64 0)]) (by simp)).set (by simp) (.int .u64 h2)).drewN 1).sub (by simp))
      have HB2 := Lib.hid (show Below s w (wr.setCell ⟨s, 2, none⟩ (.int .u64 h2)).drew from below_drewN (HB.out.setCell (p := ⟨s, 2, none⟩) (Nat.le_refl _) _) 1)
      go_wp2_with fail
      go_roundw
      case rel => exact ⟨k + 1, h2, by omega, by go_num, hh2, HC2, HB2⟩
      case measure => simp [intOf]; omega
    · obtain rfl : k = n := by omega
      go_wp2_with fail
      go_ret
      refine RetFm.mk (s := s) Hs.out ?_ HB.out
      exact ⟨A, k, c, 0, h1, hn, Nat.zero_le _, hh1, (h.below (by rw [← Hs.out]; exact HB.out)).mono (Nat.le_of_eq Hs.out.symm), HC.out⟩
end Go.Proofs.YtgmbbpaokcjnhaaGreatDoor
