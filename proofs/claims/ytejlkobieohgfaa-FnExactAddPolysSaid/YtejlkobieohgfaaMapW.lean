/- The walks of toggle, codeOf. -/
import Derived.Test.YtejlkobieohgfaaMapP
import Derived.Test.YtejlkobieohgfaaBit
import Derived.Test.YtejlkobieohgfaaExc
namespace Go.Proofs.Ytejlkobieohgfaa
open Go.RowKit
set_option linter.unusedVariables false

def RetTg (b : Nat) (L : List Int) (w : World) (e : Ending) (w' : World) : Prop := e = .returned (.tuple #[]) ∧ OwnP w' b L ∧ w.grownBy w' (some b) ∧ w'.heap.size = w.heap.size
theorem RetTg.mk {b : Nat} {L : List Int} {w w' : World} (h : OwnP w' b L) (hg : w.grownBy w' (some b)) (hs : w'.heap.size = w.heap.size) : RetTg b L w (.returned (.tuple #[])) w' := ⟨rfl, h, hg, hs⟩
set_option maxRecDepth 100000 in
theorem toggle_any (b : Nat) (k : Int) (L : List Int) (w : World) (h : OwnP w b L) (hk : wfI k) (hn : L.length < 1000000000000) : Calls Try.prog 133 #[.map (some b), .int .i64 k] w (RetTg b (L ++ [k]) w) := by
  have H := Lib.hid h
  have HK := Lib.hid hk
  have HN := Lib.hid hn
  clear h hk hn
  obtain ⟨L2, hL2⟩ : ∃ L2, L2 = L ++ [k] := ⟨_, rfl⟩
  have HL2 := Lib.hid hL2
  rw [← hL2]
  clear hL2
  obtain ⟨o, hod⟩ : ∃ o, o = odd? L k := ⟨_, rfl⟩
  have HO := Lib.hid hod
  clear hod
  cases o
  · have H0 := Lib.hid (show L.count k % 2 = 0 by have := HO.out; simp [odd?] at this; exact this)
    go_enter Try.func133, Try.ntmps133
    go_wp2_with (first
      | (at_lookup; refine wpList_lookP _ rfl (.tmp 4) (.tmp 5) rfl Try.underlying100 rfl rfl H.out HK.out ?_; rw [← HO.out])
      | (at_mapUpdate; refine wpList_putP _ rfl (.tmp 9) (.tmp 10) (.const (.bool true)) rfl Try.underlying100 rfl rfl rfl H.out HK.out H0.out HN.out ?_; rw [← HL2.out]; intro w1 h1 hg hs; have H1 := Lib.hid h1; have HG := Lib.hid hg; have HS := Lib.hid hs; clear h1 hg hs))
    go_end0
    exact RetTg.mk H1.out HG.out HS.out
  · have H0 := Lib.hid (show L.count k % 2 = 1 by have := HO.out; simpa [odd?] using this.symm)
    go_enter Try.func133, Try.ntmps133
    go_wp2_with (first
      | (at_lookup; refine wpList_lookP _ rfl (.tmp 4) (.tmp 5) rfl Try.underlying100 rfl rfl H.out HK.out ?_; rw [← HO.out])
      | (at_delete; refine wpList_dropP _ rfl (.tmp 7) (.tmp 8) rfl Try.underlying100 rfl rfl H.out HK.out H0.out ?_; rw [← HL2.out]; intro w1 h1 hg hs; have H1 := Lib.hid h1; have HG := Lib.hid hg; have HS := Lib.hid hs; clear h1 hg hs))
    go_end0
    exact RetTg.mk H1.out HG.out HS.out

theorem fit_take {xs : List Int} (h : fitP xs) (k : Nat) : fitP (xs.take k) := fun z hz => h z (List.mem_of_mem_take hz)
theorem code_step {xs : List Int} {k : Nat} {x : Int} (hx : Hid (xs[k]? = some x)) (hf : fitP xs) (hk : k ≤ 9) : bits .or .i64 (encP (xs.take k)) (wrap64 (x * 2 ^ (6 * k))) = encP (xs.take (k + 1)) := by
  have h1 := hf x (mem_of hx)
  have hl : (xs.take k).length = k := by
    have := (List.getElem?_eq_some_iff.1 hx.out).1
    rw [List.length_take]; omega
  have e64 : (2 : Int) ^ (6 * k) = 64 ^ k := by
    rw [Int.pow_mul]; rfl
  have h3 := encP_lt (fit_take hf k)
  rw [hl] at h3
  have hp : (64 : Int) ^ k ≤ 18014398509481984 := by
    have h9 : (64 : Nat) ^ k ≤ 64 ^ 9 := Nat.pow_le_pow_right (by decide) hk
    have e9 : (64 : Nat) ^ 9 = 18014398509481984 := by decide
    rw [show (64 : Int) ^ k = ((64 ^ k : Nat) : Int) from by rw [Int.natCast_pow]; rfl]
    omega
  have hpos : (0 : Int) < 64 ^ k := Int.pow_pos (by decide)
  have hb : x * 64 ^ k ≤ 63 * 18014398509481984 := Int.mul_le_mul (by omega) hp (by omega) (by decide)
  have hb0 : 0 ≤ x * 64 ^ k := Int.mul_nonneg (by omega) (by omega)
  have ew : wrap64 (x * 64 ^ k) = x * 64 ^ k := by unfold wrap64; omega
  rw [e64, ew]
  rw [or_above hk (encP_nonneg (fit_take hf k)) h3 h1.1 h1.2, take_succ_of hx, encP_snoc, hl]
set_option maxRecDepth 100000 in
theorem codeOf_any (A : Option Addr) (n c B : Nat) (xs : List Int) (w : World) (h : RdS w B A n c xs) (hf : fitP xs) (hn : n ≤ 10) :
    Calls Try.prog 134 #[.slice A n c] w (RetI (encP xs) w) := by
  have Hl := Lib.hid h.len
  have HF := Lib.hid hf
  clear hf
  go_enter Try.func134, Try.ntmps134
  go_wp2_with fail
  go_loop [3, 8] (fun s i => ∃ k : Nat, k ≤ n ∧ i = .int .i64 k ∧ ∃ y, s = .int .i64 y ∧ Hid (y = encP (xs.take k))) (fun _ i => n - (intOf i).toNat)
  case atStart => exact ⟨0, Nat.zero_le _, rfl, 0, rfl, Lib.hid rfl⟩
  case round =>
    obtain ⟨k, hk, rfl, y, rfl, HY⟩ := hrel
    by_cases hlt : k < n
    · obtain ⟨ad, x, rfl, _, hx, hc⟩ := h.at_ hlt
      go_wp2_with fail
      go_round
      case rel => exact ⟨k+1, by omega, by go_num, _, rfl, Lib.hid (by rw [HY.out, code_step hx HF.out (by omega)])⟩
      case measure => simp [intOf]; omega
    · go_wp2_with fail
      go_ret
      obtain rfl : k = n := by omega
      exact RetI.mk (y := y) (by rw [HY.out, List.take_of_length_le (by rw [Hl.out]; omega)])
end Go.Proofs.Ytejlkobieohgfaa
