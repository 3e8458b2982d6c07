/- Reading the table: times, square. -/
import Derived.Test.YtdpkhgkoeoiemaaTabO
namespace Go.Proofs.Ytdpkhgkoeoiemaa
open Go.RowKit
set_option linter.unusedVariables false

theorem bits_xorN {a b : Nat} (ha : a < 9223372036854775808) (hb : b < 9223372036854775808) : bits .xor .i64 (a : Int) (b : Int) = ((a ^^^ b : Nat) : Int) := by
  have hx : a ^^^ b < 2 ^ 63 := Nat.xor_lt_two_pow (by omega) (by omega)
  show IntKind.i64.wrap ((BitVec.ofInt 64 (a : Int) ^^^ BitVec.ofInt 64 (b : Int)).toNat : Int) = _
  rw [BitVec.toNat_xor, ofInt_nat ha, ofInt_nat hb, IntKind.wrap_i64]
  omega
theorem bit_at {x i : Nat} (hx : x < 9223372036854775808) : bits .and .i64 ((x : Int) / 2 ^ i) 1 = if x.testBit i = true then 1 else 0 := by
  have e : ((x : Int) / 2 ^ i) = ((x / 2 ^ i : Nat) : Int) := by push_cast; rfl
  have h1 : x / 2 ^ i ≤ x := Nat.div_le_self _ _
  rw [e, show (1 : Int) = ((1 : Nat) : Int) from rfl, bits_andN (by omega) (by decide), Nat.and_one_is_mod, Nat.testBit_eq_decide_div_mod_eq]
  by_cases h : x / 2 ^ i % 2 = 1
  · rw [h]; simp
  · have h0 : x / 2 ^ i % 2 = 0 := by omega
    rw [h0]; simp
theorem xorN_lt {n : Nat} {f : Nat → Nat} : ∀ m : Nat, (∀ i, i < m → f i < 2 ^ n) → xorN m f < 2 ^ n
  | 0, _ => Nat.two_pow_pos n
  | m + 1, h => xor_lt (xorN_lt m fun i hi => h i (by omega)) (h m (Nat.lt_succ_self _))
theorem pickF_lt {v i : Nat} {f : Nat → Nat} (h : f i < 65536) : pickF v f i < 65536 := by
  unfold pickF
  split
  · exact h
  · decide

set_option maxRecDepth 100000 in
theorem times_any (x n : Nat) (A : Option Addr) (c B : Nat) (f : Nat → Nat) (w : World) (h : RdS w B A n c ((List.range n).map fun i => ((f i : Nat) : Int))) (hx : x < 65536) (hf : ∀ i, i < n → f i < 65536) (hn : n ≤ 16) :
    Calls Try.prog 69 #[.int .i64 (x : Nat), .slice A n c] w (RetI (xorN n (pickF x f) : Nat) w) := by
  have H := Lib.hid h
  have HF := Lib.hid hf
  have HL := Lib.hid (show ∀ k, k ≤ n → xorN k (pickF x f) < 65536 from fun k hk => by
    have e : (2 : Nat) ^ 16 = 65536 := by decide
    rw [← e]
    exact xorN_lt k fun i hi => by rw [e]; exact pickF_lt (hf i (by omega)))
  clear h hf
  go_enter Try.func69, Try.ntmps69
  go_wp2_with fail
  go_loop [5, 10] (fun t i => ∃ (k s : Nat), k ≤ n ∧ i = .int .i64 k ∧ t = .int .i64 s ∧ Hid (s = xorN k (pickF x f))) (fun _ i => n - (intOf i).toNat)
  case atStart => exact ⟨0, 0, Nat.zero_le _, rfl, rfl, Lib.hid rfl⟩
  case round =>
    obtain ⟨k, s, hk, rfl, rfl, HS⟩ := hrel
    by_cases hlt : k < n
    · obtain ⟨ad, y, rfl, _, hy, hc⟩ := H.out.at_ hlt
      obtain rfl : y = ((f k : Nat) : Int) := by
        have := hy.out
        simp [hlt] at this
        exact this.symm
      have hfk := HF.out k hlt
      have hs := HL.out k hk
      rw [← HS.out] at hs
      have hb := bit_at (x := x) (i := k) (by omega)
      by_cases hv : x.testBit k = true
      · rw [if_pos hv] at hb
        have hxo := bits_xorN (a := s) (b := f k) (by omega) (by omega)
        have HN := Lib.hid (show s ^^^ f k = xorN (k + 1) (pickF x f) from by rw [xorN, pickF_yes hv, HS.out])
        clear hv
        go_wp2_with fail
        go_round
        case rel => exact ⟨k + 1, s ^^^ f k, by omega, by go_num, rfl, HN⟩
        case measure => simp [intOf]; omega
      · rw [if_neg hv] at hb
        have HN := Lib.hid (show s = xorN (k + 1) (pickF x f) from by rw [xorN, pickF_no hv, HS.out, Nat.xor_zero])
        clear hv
        go_wp2_with fail
        go_round
        case rel => exact ⟨k + 1, s, by omega, by go_num, rfl, HN⟩
        case measure => simp [intOf]; omega
    · obtain rfl : k = n := by omega
      have HS2 := Lib.hid (congrArg (fun m : Nat => (m : Int)) HS.out)
      go_wp2_with fail
      go_ret
      exact RetI.mk HS2.out

/-- Sq^k of a mask, read off the table -/
theorem tsquare_any (t n k v : Nat) (DS : Value) (M : Nat → Nat → Nat) (w : World) (h : TabR w t n DS M) (hM : ∀ k i, i < n → M k i < 65536) (hk : k ≤ 20) (hv : v < 65536) (hn : n ≤ 16) :
    Calls Try.prog 59 #[.pointer (some ⟨t, 0, none⟩), .int .i64 (k : Nat), .int .i64 (v : Nat)] w (RetI (xorN n (pickF v (M k)) : Nat) w) := by
  obtain ⟨g, hc, hr⟩ := h.row k (by omega)
  have HT := Lib.hid (times_any v n (some ⟨g, 0, none⟩) n _ (M k) w hr hv (hM k) hn)
  have hkd : decide ((20 : Int) < (k : Int)) = false := by simp; omega
  have hk21 : (k : Int) < 21 := by omega
  clear hr h
  go_enter Try.func59, Try.ntmps59
  go_wp2_with fail
  refine HT.out.mono ?_
  rintro e w' ⟨rfl, rfl⟩
  go_wp2_with fail
  go_ret
  exact RetI.mk rfl

def relP (a b m : Nat) : List Nat := (List.range m).filter fun j => (b - 1 - j) &&& (a - 2 * j) == a - 2 * j
def natL (l : List Nat) : List Int := l.map fun j => ((j : Nat) : Int)
theorem relP_yes {a b m : Nat} (h : ((b - 1 - m) &&& (a - 2 * m) == a - 2 * m) = true) : relP a b (m + 1) = relP a b m ++ [m] := by
  unfold relP
  rw [List.range_succ, List.filter_append]
  simp only [List.filter_cons, h, List.filter_nil, if_true]
theorem relP_no {a b m : Nat} (h : ((b - 1 - m) &&& (a - 2 * m) == a - 2 * m) = false) : relP a b (m + 1) = relP a b m := by
  unfold relP
  rw [List.range_succ, List.filter_append]
  simp [h]
theorem relP_len (a b m : Nat) : (relP a b m).length ≤ m := by
  have := List.length_filter_le (fun j => (b - 1 - j) &&& (a - 2 * j) == a - 2 * j) (List.range m)
  rw [List.length_range] at this
  exact this
set_option maxRecDepth 100000 in
theorem relation_any (a b : Nat) (w : World) (hb : a / 2 + 1 ≤ b) (h1 : a ≤ 1000) (h2 : b ≤ 1000) :
    Calls Try.prog 58 #[.int .i64 (a : Nat), .int .i64 (b : Nat)] w (RetO (relF a b).length (natL (relF a b)) w) := by
  obtain ⟨R, hR⟩ : ∃ R, R = RetO (relF a b).length (natL (relF a b)) w := ⟨_, rfl⟩
  have HR := Lib.hid hR
  rw [← hR]
  clear hR
  have S0 := Lib.hid (StS.start (Below.refl w.heap.size w) (Nat.le_refl _))
  go_enter Try.func58, Try.ntmps58
  go_wp2_with fail
  go_loopw [5, 6] (fun v i wr => ∃ (m l c : Nat) (A : Option Addr) (P : List Nat), m ≤ a / 2 + 1 ∧ i = .int .i64 m ∧ v = .slice A l c ∧ Hid (P = relP a b m) ∧ Hid (l = P.length) ∧ Hid (StS w w.heap.size wr A l c (natL P))) (fun _ i _ => a + 1 - (intOf i).toNat)
  case atStart => exact ⟨0, 0, _, _, [], by omega, rfl, rfl, Lib.hid rfl, Lib.hid rfl, S0⟩
  case round =>
    clear S0
    obtain ⟨m, l, c, A, P, hm, rfl, rfl, HP, HL, HS⟩ := hrel
    have hw1 : IntKind.i64.wrap (2 * (m : Int)) = 2 * (m : Int) := by rw [IntKind.wrap_i64]; omega
    by_cases hlt : m < a / 2 + 1
    · have hle : (2 * (m : Int)) ≤ (a : Int) := by omega
      have hw2 : IntKind.i64.wrap ((b : Int) - (m : Int)) = (b : Int) - (m : Int) := by rw [IntKind.wrap_i64]; omega
      have hw3 : IntKind.i64.wrap ((b : Int) - (m : Int) - 1) = ((b - 1 - m : Nat) : Int) := by rw [IntKind.wrap_i64]; omega
      have hw4 : IntKind.i64.wrap ((a : Int) - 2 * (m : Int)) = ((a - 2 * m : Nat) : Int) := by rw [IntKind.wrap_i64]; omega
      have hand := bits_andN (a := b - 1 - m) (b := a - 2 * m) (by omega) (by omega)
      have hll : l ≤ 1001 := by have h3 := relP_len a b m; rw [← HP.out, ← HL.out] at h3; omega
      obtain ⟨p, hp⟩ : ∃ p, p = (b - 1 - m) &&& (a - 2 * m) := ⟨_, rfl⟩
      obtain ⟨q, hq⟩ : ∃ q, q = a - 2 * m := ⟨_, rfl⟩
      obtain ⟨s, hs⟩ : ∃ s, s = b - 1 - m := ⟨_, rfl⟩
      rw [← hp, ← hs, ← hq] at hand
      rw [← hs] at hw3
      rw [← hq] at hw4
      have HQ := Lib.hid (show ((b - 1 - m) &&& (a - 2 * m) == a - 2 * m) = (p == q) from by rw [hp, hq])
      clear hp hq hs
      by_cases he : p = q
      · have hb1 : ((p : Int) == (q : Int)) = true := by simp [he]
        have hb2 : (p == q) = true := by simpa using he
        have HN := Lib.hid (show P ++ [m] = relP a b (m + 1) from by rw [relP_yes (by rw [HQ.out]; exact hb2), HP.out])
        clear he
        go_wp2_with (at_builtin; refine wpList_pushI rfl (.tmp 29) (.tmp 31) rfl rfl rfl HS.out (by omega) ?_)
        intro A6 c6 w6 hs6 _
        have HS6 := Lib.hid hs6
        clear hs6
        go_wp2_with fail
        go_roundw
        case rel => exact ⟨m + 1, l + 1, c6, A6, P ++ [m], by omega, by go_num, rfl, HN, Lib.hid (by rw [HL.out]; simp), Lib.hid (by have := HS6.out; unfold natL at this ⊢; rw [List.map_append]; exact this)⟩
        case measure => simp [intOf]; omega
      · have hb1 : ((p : Int) == (q : Int)) = false := by simp; omega
        have hb2 : (p == q) = false := by simpa using he
        have HN := Lib.hid (show P = relP a b (m + 1) from by rw [relP_no (by rw [HQ.out]; exact hb2), HP.out])
        clear he
        go_wp2_with fail
        go_roundw
        case rel => exact ⟨m + 1, l, c, A, P, by omega, by go_num, rfl, HN, HL, HS⟩
        case measure => simp [intOf]; omega
    · obtain rfl : m = a / 2 + 1 := by omega
      have hle : ¬ (2 * ((a / 2 + 1 : Nat) : Int)) ≤ (a : Int) := by omega
      obtain ⟨m2, hm2⟩ : ∃ m2, m2 = a / 2 + 1 := ⟨_, rfl⟩
      rw [← hm2] at hle hw1 HP ⊢
      have HM := Lib.hid hm2
      clear hm hm2 hlt
      have HF := Lib.hid (show P = relF a b from by rw [HP.out, HM.out]; rfl)
      go_wp2_with fail
      rw [HR.out, ← HF.out]
      exact RetO.mk2 HL.out rfl HS.out
end Go.Proofs.Ytdpkhgkoeoiemaa
