/- Sums and excess of words on both sides. -/
import Derived.Test.YtgoefodemjelaaaSums
namespace Go.Proofs.Ytgoefodemjelaaa
open Go.RowKit
set_option linter.unusedVariables false

theorem sum_any (A : Option Addr) (n c B : Nat) (xs : List Int) (w : World) (h : RdS w B A n c xs) (hn : n ≤ 1000000000000) :
    Calls Try.prog 81 #[.slice A n c] w (RetI (psT 0 xs) w) := by
  have Hl := Lib.hid h.len
  obtain ⟨R, hR⟩ : ∃ R, R = psT 0 xs := ⟨_, rfl⟩
  have HR := Lib.hid hR
  rw [← hR]
  clear hR
  go_enter Try.func81, Try.ntmps81
  go_wp2_with fail
  go_loop [3, 8] (fun t i => ∃ (k : Nat) (s : Int), k ≤ n ∧ i = .int .i64 k ∧ t = .int .i64 s ∧ Hid (s = psT 0 (xs.take k))) (fun _ i => n - (intOf i).toNat)
  case atStart => exact ⟨0, 0, Nat.zero_le _, rfl, rfl, Lib.hid rfl⟩
  case round =>
    obtain ⟨k, s, hk, rfl, rfl, HS⟩ := hrel
    by_cases hlt : k < n
    · obtain ⟨ad, x, rfl, _, hx, hc⟩ := h.at_ hlt
      go_wp2_with fail
      go_round
      case rel => exact ⟨k+1, wrap64 (s + x), by omega, by go_num, rfl, Lib.hid (by rw [take_succ_of hx, psT_snoc, ← HS.out])⟩
      case measure => simp [intOf]; omega
    · go_wp2_with fail
      go_ret
      obtain rfl : k = n := by omega
      refine RetI.mk (y := s) ?_
      rw [HS.out, HR.out, List.take_of_length_le (by rw [Hl.out]; omega)]
theorem deg_any (A : Option Addr) (n c B : Nat) (xs : List Int) (w : World) (h : RdS w B A n c xs) (hn : n ≤ 1000000000000) :
    Calls Try.prog 80 #[.slice A n c] w (RetI (psT 0 xs) w) := by
  have Hl := Lib.hid h.len
  obtain ⟨R, hR⟩ : ∃ R, R = psT 0 xs := ⟨_, rfl⟩
  have HR := Lib.hid hR
  rw [← hR]
  clear hR
  go_enter Try.func80, Try.ntmps80
  go_wp2_with fail
  go_loop [3, 4] (fun t i => ∃ (k : Nat) (s : Int), k ≤ n ∧ i = .int .i64 k ∧ t = .int .i64 s ∧ Hid (s = psT 0 (xs.take k))) (fun _ i => n - (intOf i).toNat)
  case atStart => exact ⟨0, 0, Nat.zero_le _, rfl, rfl, Lib.hid rfl⟩
  case round =>
    obtain ⟨k, s, hk, rfl, rfl, HS⟩ := hrel
    by_cases hlt : k < n
    · obtain ⟨ad, x, rfl, _, hx, hc⟩ := h.at_ hlt
      go_wp2_with fail
      go_round
      case rel => exact ⟨k+1, wrap64 (s + x), by omega, by go_num, rfl, Lib.hid (by rw [take_succ_of hx, psT_snoc, ← HS.out])⟩
      case measure => simp [intOf]; omega
    · go_wp2_with fail
      go_ret
      obtain rfl : k = n := by omega
      refine RetI.mk (y := s) ?_
      rw [HS.out, HR.out, List.take_of_length_le (by rw [Hl.out]; omega)]

/-- the excess of a word, with numbers that go round -/
def excW : List Int → Int
  | [] => 0
  | x :: xs => wrap64 (wrap64 (2 * x) - psT 0 (x :: xs))
def RetIq (x : Int) (w : World) (e : Ending) (w' : World) : Prop := e = .returned (.int .i64 x) ∧ ∃ k, w' = w.drewN k
theorem RetIq.mk {x y : Int} {w w' : World} (h : y = x) (hk : ∃ k, w' = w.drewN k) : RetIq x w (.returned (.int .i64 y)) w' := ⟨by rw [h], hk⟩

theorem excess_any (A : Option Addr) (n c B : Nat) (xs : List Int) (w : World) (h : RdS w B A n c xs) (hn : n ≤ 1000000000000) :
    Calls Try.prog 77 #[.slice A n c] w (RetIq (excW xs) w) := by
  have Hl := Lib.hid h.len
  rcases Nat.eq_zero_or_pos n with rfl | hpos
  · go_enter Try.func77, Try.ntmps77
    go_wp2_with fail
    go_ret
    exact RetIq.mk (y := 0) (by have := Hl.out; cases xs with | nil => rfl | cons x xs => simp at this) ⟨0, rfl⟩
  · obtain ⟨ad, x, rfl, _, hx, hc⟩ := h.at_ hpos
    have hc0 : w.cell? ad = some (.int .i64 x) := by simpa [Addr.add] using hc
    have hn0 : (n == 0) = false := by simp; omega
    have hn1 : ((n : Int) == 0) = false := by simp; omega
    have Hs := fun k : Nat => Lib.hid (sum_any (some ad) n c B xs (w.drewN k) (h.drewN k) hn)
    obtain ⟨s, hs⟩ : ∃ s, s = psT 0 xs := ⟨_, rfl⟩
    have HE : Hid (wrap64 (wrap64 (2 * x) - s) = excW xs) := Lib.hid (by
      have := hx.out
      cases xs with
      | nil => simp at this
      | cons y ys => simp at this; subst this; rw [hs]; rfl)
    rw [← hs] at Hs
    rw [← HE.out]
    clear hs
    go_enter Try.func77, Try.ntmps77
    go_wp2_with fail
    go_quiet ((go_at_call 81; exact Calls.quiet_of_same ((Hs _).out)))
    go_wp2_with fail
    go_ret
    exact RetIq.mk (y := wrap64 (wrap64 (2 * x) - s)) rfl (by first | exact ⟨_, rfl⟩ | exact ⟨_, World.drewN_drewN _ _ _⟩)
theorem l03Excess_any (A : Option Addr) (n c B : Nat) (xs : List Int) (w : World) (h : RdS w B A n c xs) (hn : n ≤ 1000000000000) :
    Calls Try.prog 75 #[.slice A n c] w (RetIq (excW xs) w) := by
  have Hl := Lib.hid h.len
  rcases Nat.eq_zero_or_pos n with rfl | hpos
  · go_enter Try.func75, Try.ntmps75
    go_wp2_with fail
    go_ret
    exact RetIq.mk (y := 0) (by have := Hl.out; cases xs with | nil => rfl | cons x xs => simp at this) ⟨0, rfl⟩
  · obtain ⟨ad, x, rfl, _, hx, hc⟩ := h.at_ hpos
    have hc0 : w.cell? ad = some (.int .i64 x) := by simpa [Addr.add] using hc
    have hn0 : (n == 0) = false := by simp; omega
    have hn1 : ((n : Int) == 0) = false := by simp; omega
    have Hs := fun k : Nat => Lib.hid (deg_any (some ad) n c B xs (w.drewN k) (h.drewN k) hn)
    obtain ⟨s, hs⟩ : ∃ s, s = psT 0 xs := ⟨_, rfl⟩
    have HE : Hid (wrap64 (wrap64 (2 * x) - s) = excW xs) := Lib.hid (by
      have := hx.out
      cases xs with
      | nil => simp at this
      | cons y ys => simp at this; subst this; rw [hs]; rfl)
    rw [← hs] at Hs
    rw [← HE.out]
    clear hs
    go_enter Try.func75, Try.ntmps75
    go_wp2_with fail
    go_quiet ((go_at_call 80; exact Calls.quiet_of_same ((Hs _).out)))
    go_wp2_with fail
    go_ret
    exact RetIq.mk (y := wrap64 (wrap64 (2 * x) - s)) rfl (by first | exact ⟨_, rfl⟩ | exact ⟨_, World.drewN_drewN _ _ _⟩)
end Go.Proofs.Ytgoefodemjelaaa
