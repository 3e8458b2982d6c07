/- Sums and excess of words on both sides. -/
import Derived.Test.YtoodhbafleemjaaGreatShift
namespace Go.Proofs.YtoodhbafleemjaaGreat
open Go.RowKit
set_option linter.unusedVariables false

theorem sum_any (A : Option Addr) (n c B : Nat) (xs : List Int) (w : World) (h : RdS w B A n c xs) (hn : n ≤ 1000000000000) :
    Calls Tryz.prog 62 #[.slice A n c] w (RetI (psT 0 xs) w) := by
  have Hl := Lib.hid h.len
  obtain ⟨R, hR⟩ : ∃ R, R = psT 0 xs := ⟨_, rfl⟩
  have HR := Lib.hid hR
  rw [← hR]
  clear hR
  go_enter Tryz.func62, Tryz.ntmps62
  go_wp2_with fail
  go_loop [3, 8] (fun t i => ∃ (k : Nat) (s : Int), k ≤ n ∧ i = .int .i64 k ∧ t = .int .i64 s ∧ Hid (s = psT 0 (xs.take k))) (fun _ i => n - (intOf i).toNat)
  case atStart => exact ⟨0, 0, Nat.zero_le _, rfl, rfl, Lib.hid rfl⟩
  case round =>
    obtain ⟨k, s, hk, rfl, rfl, HS⟩ := hrel
    by_cases hlt : k < n
    · obtain ⟨ad, x, rfl, _, hx, hc⟩ := h.at_ hlt
      go_wp2_with fail
      go_round
      case rel => exact ⟨k+1, wrap64 (s + x), by omega, by go_num, rfl, Lib.hid (by rw [take_succ_of hx, psT_snoc, ← HS.out])⟩
      case measure => simp [intOf]; omega
    · go_wp2_with fail
      go_ret
      obtain rfl : k = n := by omega
      refine RetI.mk (y := s) ?_
      rw [HS.out, HR.out, List.take_of_length_le (by rw [Hl.out]; omega)]
theorem deg_any (A : Option Addr) (n c B : Nat) (xs : List Int) (w : World) (h : RdS w B A n c xs) (hn : n ≤ 1000000000000) :
    Calls Tryz.prog 105 #[.slice A n c] w (RetI (psT 0 xs) w) := by
  have Hl := Lib.hid h.len
  obtain ⟨R, hR⟩ : ∃ R, R = psT 0 xs := ⟨_, rfl⟩
  have HR := Lib.hid hR
  rw [← hR]
  clear hR
  go_enter Tryz.func105, Tryz.ntmps105
  go_wp2_with fail
  go_loop [3, 4] (fun t i => ∃ (k : Nat) (s : Int), k ≤ n ∧ i = .int .i64 k ∧ t = .int .i64 s ∧ Hid (s = psT 0 (xs.take k))) (fun _ i => n - (intOf i).toNat)
  case atStart => exact ⟨0, 0, Nat.zero_le _, rfl, rfl, Lib.hid rfl⟩
  case round =>
    obtain ⟨k, s, hk, rfl, rfl, HS⟩ := hrel
    by_cases hlt : k < n
    · obtain ⟨ad, x, rfl, _, hx, hc⟩ := h.at_ hlt
      go_wp2_with fail
      go_round
      case rel => exact ⟨k+1, wrap64 (s + x), by omega, by go_num, rfl, Lib.hid (by rw [take_succ_of hx, psT_snoc, ← HS.out])⟩
      case measure => simp [intOf]; omega
    · go_wp2_with fail
      go_ret
      obtain rfl : k = n := by omega
      refine RetI.mk (y := s) ?_
      rw [HS.out, HR.out, List.take_of_length_le (by rw [Hl.out]; omega)]

/-- the excess of a word, with numbers that go round -/
def excW : List Int → Int
  | [] => 0
  | x :: xs => wrap64 (wrap64 (2 * x) - psT 0 (x :: xs))
def RetIq (x : Int) (w : World) (e : Ending) (w' : World) : Prop := e = .returned (.int .i64 x) ∧ ∃ k, w' = w.drewN k
theorem RetIq.mk {x y : Int} {w w' : World} (h : y = x) (hk : ∃ k, w' = w.drewN k) : RetIq x w (.returned (.int .i64 y)) w' := ⟨by rw [h], hk⟩

end Go.Proofs.YtoodhbafleemjaaGreat
