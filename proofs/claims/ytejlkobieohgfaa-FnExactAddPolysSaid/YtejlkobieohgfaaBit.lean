/- Plain: bits of numbers, as the model writes them; the shift that lays an exponent into a monomial's number, and the one that takes it out. -/
import Derived.Test.YtejlkobieohgfaaPar
namespace Go.Proofs.Ytejlkobieohgfaa
open Go.RowKit
set_option linter.unusedVariables false

theorem ofInt_nat {a : Nat} (ha : a < 9223372036854775808) : (BitVec.ofInt 64 (a : Int)).toNat = a := by
  rw [BitVec.ofInt_natCast, BitVec.toNat_ofNat]; exact Nat.mod_eq_of_lt (by omega)
theorem bits_andN {a b : Nat} (ha : a < 9223372036854775808) (hb : b < 9223372036854775808) : bits .and .i64 (a : Int) (b : Int) = ((a &&& b : Nat) : Int) := by
  have hx : a &&& b < 2 ^ 63 := Nat.and_lt_two_pow _ (by omega)
  show IntKind.i64.wrap ((BitVec.ofInt 64 (a : Int) &&& BitVec.ofInt 64 (b : Int)).toNat : Int) = _
  rw [BitVec.toNat_and, ofInt_nat ha, ofInt_nat hb, IntKind.wrap_i64]
  omega
theorem bits_orN {a b : Nat} (ha : a < 9223372036854775808) (hb : b < 9223372036854775808) : bits .or .i64 (a : Int) (b : Int) = ((a ||| b : Nat) : Int) := by
  have hx : a ||| b < 2 ^ 63 := Nat.or_lt_two_pow (by omega) (by omega)
  show IntKind.i64.wrap ((BitVec.ofInt 64 (a : Int) ||| BitVec.ofInt 64 (b : Int)).toNat : Int) = _
  rw [BitVec.toNat_or, ofInt_nat ha, ofInt_nat hb, IntKind.wrap_i64]
  omega
/-- an exponent is laid above what is there -/
theorem or_above {c n : Int} {i : Nat} (hi : i ≤ 9) (h0 : 0 ≤ c) (h1 : c < 64 ^ i) (hn : 0 ≤ n) (hn1 : n < 64) : bits .or .i64 c (n * 64 ^ i) = c + n * 64 ^ i := by
  obtain ⟨a, rfl⟩ := Int.eq_ofNat_of_zero_le h0
  obtain ⟨m, rfl⟩ := Int.eq_ofNat_of_zero_le hn
  have e64 : (64 : Nat) ^ i = 2 ^ (6 * i) := by rw [Nat.pow_mul]
  have ha : a < 64 ^ i := by exact_mod_cast h1
  have hm : m < 64 := by omega
  have hp : (64 : Nat) ^ i ≤ 64 ^ 9 := Nat.pow_le_pow_right (by decide) hi
  have hmp : m * 64 ^ i ≤ 63 * 64 ^ 9 := Nat.mul_le_mul (by omega) hp
  have hlt : m * 64 ^ i < 9223372036854775808 := Nat.lt_of_le_of_lt hmp (by decide)
  have hlt2 : a < 9223372036854775808 := Nat.lt_of_lt_of_le ha (Nat.le_trans hp (by decide))
  rw [show ((m : Int) * 64 ^ i) = ((m * 64 ^ i : Nat) : Int) from by push_cast; rfl, bits_orN hlt2 hlt]
  rw [Nat.or_comm, e64, ← Nat.shiftLeft_eq, ← Nat.shiftLeft_add_eq_or_of_lt (by rw [← e64]; exact ha)]
  push_cast; omega
theorem and63 {a : Int} (h0 : 0 ≤ a) (h1 : a < 9223372036854775808) : bits .and .i64 a 63 = a % 64 := by
  obtain ⟨m, rfl⟩ := Int.eq_ofNat_of_zero_le h0
  rw [show (63 : Int) = ((63 : Nat) : Int) from rfl, bits_andN (by omega) (by decide)]
  rw [show (63 : Nat) = 2 ^ 6 - 1 from rfl, Nat.and_two_pow_sub_one_eq_mod]
  omega
/-- n has all bits of j -/
theorem and_sub {n j : Int} (hn : 0 ≤ n) (hj : 0 ≤ j) (hn1 : n < 9223372036854775808) (hj1 : j < 9223372036854775808) : bits .and .i64 n j = j ↔ n.toNat &&& j.toNat = j.toNat := by
  obtain ⟨a, rfl⟩ := Int.eq_ofNat_of_zero_le hn
  obtain ⟨b, rfl⟩ := Int.eq_ofNat_of_zero_le hj
  rw [bits_andN (by omega) (by omega)]
  simp only [Int.toNat_natCast]
  omega
end Go.Proofs.Ytejlkobieohgfaa
