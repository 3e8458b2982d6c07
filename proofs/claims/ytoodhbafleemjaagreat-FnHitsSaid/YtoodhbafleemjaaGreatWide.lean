/- Masks of two numbers: the methods of impl.wide. -/
import Derived.Test.YtoodhbafleemjaaGreatHitP
import Derived.Test.YtoodhbafleemjaaGreatPar
import Derived.Test.YtoodhbafleemjaaGreatFrC
import Derived.Test.YtoodhbafleemjaaGreatShb
import Derived.Lib.ItoaNum
import Derived.Maps.OwnSet
import Derived.Maps.OwnOps
import Derived.Test.YtoodhbafleemjaaGreatMapP
namespace Go.Proofs.YtoodhbafleemjaaGreat
open Go.RowKit
set_option linter.unusedVariables false

theorem bits_andU {a b : Nat} (ha : a < 18446744073709551616) (hb : b < 18446744073709551616) : bits .and .u64 (a : Int) (b : Int) = ((a &&& b : Nat) : Int) := by
  have hx : a &&& b < 2 ^ 64 := Nat.and_lt_two_pow _ (by omega)
  have o : ∀ a : Nat, a < 18446744073709551616 → (BitVec.ofInt 64 (a : Int)).toNat = a := fun a ha => by
    rw [BitVec.ofInt_natCast, BitVec.toNat_ofNat]; exact Nat.mod_eq_of_lt (by omega)
  show IntKind.u64.wrap ((BitVec.ofInt 64 (a : Int) &&& BitVec.ofInt 64 (b : Int)).toNat : Int) = _
  rw [BitVec.toNat_and, o a ha, o b hb, IntKind.wrap_u64]
  omega
theorem bits_xorU {a b : Nat} (ha : a < 18446744073709551616) (hb : b < 18446744073709551616) : bits .xor .u64 (a : Int) (b : Int) = ((a ^^^ b : Nat) : Int) := by
  have hx : a ^^^ b < 2 ^ 64 := Nat.xor_lt_two_pow (by omega) (by omega)
  have o : ∀ a : Nat, a < 18446744073709551616 → (BitVec.ofInt 64 (a : Int)).toNat = a := fun a ha => by
    rw [BitVec.ofInt_natCast, BitVec.toNat_ofNat]; exact Nat.mod_eq_of_lt (by omega)
  show IntKind.u64.wrap ((BitVec.ofInt 64 (a : Int) ^^^ BitVec.ofInt 64 (b : Int)).toNat : Int) = _
  rw [BitVec.toNat_xor, o a ha, o b hb, IntKind.wrap_u64]
  omega
theorem bitU {x i : Nat} (hx : x < 18446744073709551616) : (bits .and .u64 ((x : Int) / 2 ^ i) 1 == 1) = x.testBit i := by
  have e : (x : Int) / 2 ^ i = ((x / 2 ^ i : Nat) : Int) := by push_cast; rfl
  have hl : x / 2 ^ i < 18446744073709551616 := Nat.lt_of_le_of_lt (Nat.div_le_self _ _) hx
  rw [e, show (1 : Int) = ((1 : Nat) : Int) from rfl, bits_andU hl (by decide), Nat.and_one_is_mod, Nat.testBit_eq_decide_div_mod_eq]
  have : x / 2 ^ i % 2 = 0 ∨ x / 2 ^ i % 2 = 1 := by omega
  rcases this with h | h <;> rw [h] <;> rfl
/-- a mask of 128 digits, as the program keeps it -/
def loN (v : Nat) : Nat := v % 2 ^ 64
def hiN (v : Nat) : Nat := v / 2 ^ 64
theorem loN_lt (v : Nat) : loN v < 18446744073709551616 := Nat.mod_lt _ (by decide)
theorem hiN_lt {v : Nat} (h : v < 2 ^ 128) : hiN v < 18446744073709551616 := by unfold hiN; omega
theorem loN_bit (v i : Nat) : (loN v).testBit i = (decide (i < 64) && v.testBit i) := Nat.testBit_mod_two_pow v 64 i
theorem hiN_bit (v i : Nat) : (hiN v).testBit i = v.testBit (64 + i) := by unfold hiN; rw [Nat.testBit_div_two_pow, Nat.add_comm]
theorem loN_xor (u v : Nat) : loN u ^^^ loN v = loN (u ^^^ v) := by
  apply Nat.eq_of_testBit_eq; intro i
  rw [Nat.testBit_xor, loN_bit, loN_bit, loN_bit, Nat.testBit_xor]
  cases decide (i < 64) <;> simp
theorem hiN_xor (u v : Nat) : hiN u ^^^ hiN v = hiN (u ^^^ v) := by
  apply Nat.eq_of_testBit_eq; intro i
  rw [Nat.testBit_xor, hiN_bit, hiN_bit, hiN_bit, Nat.testBit_xor]
theorem loN_pow {i : Nat} (h : i < 64) : loN (2 ^ i) = 2 ^ i := Nat.mod_eq_of_lt (Nat.pow_lt_pow_right (by decide) h)
theorem hiN_pow {i : Nat} (h : i < 64) : hiN (2 ^ i) = 0 := Nat.div_eq_of_lt (Nat.pow_lt_pow_right (by decide) h)
theorem loN_pow2 {i : Nat} (h : 64 ≤ i) : loN (2 ^ i) = 0 := by
  obtain ⟨k, rfl⟩ := Nat.exists_eq_add_of_le h
  unfold loN
  rw [Nat.pow_add, Nat.mul_mod_right]
theorem hiN_pow2 {i : Nat} (h : 64 ≤ i) : hiN (2 ^ i) = 2 ^ (i - 64) := by
  obtain ⟨k, rfl⟩ := Nat.exists_eq_add_of_le h
  unfold hiN
  rw [Nat.pow_add, Nat.mul_div_cancel_left _ (by decide), Nat.add_sub_cancel_left]
def wV (v : Nat) : Value := .agg #[.int .u64 (loN v : Nat), .int .u64 (hiN v : Nat)]
def RetWd (v : Nat) (w : World) (e : Ending) (w' : World) : Prop := e = .returned (wV v) ∧ Below w.heap.size w w'
theorem tdiv64_lo {i : Nat} (h : i < 64) : Int.tdiv (i : Int) 64 = 0 := by rw [Int.tdiv_eq_ediv_of_nonneg (by omega)]; omega
theorem tmod64_lo {i : Nat} (h : i < 64) : Int.tmod (i : Int) 64 = (i : Int) := by rw [Int.tmod_eq_emod_of_nonneg (by omega)]; omega
theorem tdiv64_hi {i : Nat} (h : 64 ≤ i) (h2 : i < 128) : Int.tdiv (i : Int) 64 = 1 := by rw [Int.tdiv_eq_ediv_of_nonneg (by omega)]; omega
theorem tmod64_hi {i : Nat} (h : 64 ≤ i) (h2 : i < 128) : Int.tmod (i : Int) 64 = ((i - 64 : Nat) : Int) := by rw [Int.tmod_eq_emod_of_nonneg (by omega)]; omega

set_option maxRecDepth 100000 in
theorem has_any (v i : Nat) (w : World) (hv : v < 2 ^ 128) (hi : i < 128) : Calls Tryz.prog 97 #[wV v, .int .i64 i] w (RetBb (v.testBit i) w) := by
  obtain ⟨a, ha⟩ : ∃ a, a = loN v := ⟨_, rfl⟩
  obtain ⟨b, hb⟩ : ∃ b, b = hiN v := ⟨_, rfl⟩
  unfold wV
  rw [← ha, ← hb]
  have HAa := Lib.hid ha
  have HBb := Lib.hid hb
  have HV := Lib.hid hv
  have HB := Lib.hid ((Below.refl w.heap.size w).alloc (Nat.le_refl _) (.cells #[.int .u64 a, .int .u64 b] 104))
  clear ha hb hv
  by_cases h : i < 64
  · have hq := tdiv64_lo h
    have hm := tmod64_lo h
    have HI := Lib.hid h
    go_enter Tryz.func97, Tryz.ntmps97
    go_wp2_with fail
    go_ret
    refine RetBb.mk ?_ HB.out
    rw [HAa.out, bitU (loN_lt v), loN_bit, decide_eq_true HI.out]; simp
  · have hq := tdiv64_hi (Nat.le_of_not_lt h) hi
    have hm := tmod64_hi (Nat.le_of_not_lt h) hi
    obtain ⟨k, hk⟩ : ∃ k, k = i - 64 := ⟨_, rfl⟩
    rw [← hk] at hm
    have HK := Lib.hid (show i = 64 + k by omega)
    have hk64 : k < 64 := by omega
    clear hk
    go_enter Tryz.func97, Tryz.ntmps97
    go_wp2_with fail
    go_ret
    refine RetBb.mk ?_ HB.out
    rw [HBb.out, bitU (hiN_lt HV.out), hiN_bit, ← HK.out]
set_option maxRecDepth 100000 in
theorem plusW_any (u v : Nat) (w : World) (hu : u < 2 ^ 128) (hv : v < 2 ^ 128) : Calls Tryz.prog 128 #[wV u, wV v] w (RetWd (u ^^^ v) w) := by
  have hx1 := bits_xorU (loN_lt u) (loN_lt v)
  have hx2 := bits_xorU (hiN_lt hu) (hiN_lt hv)
  rw [loN_xor] at hx1
  rw [hiN_xor] at hx2
  obtain ⟨R, hR⟩ : ∃ R, R = RetWd (u ^^^ v) w := ⟨_, rfl⟩
  have HR := Lib.hid hR
  rw [← hR]
  clear hR
  unfold RetWd at HR
  unfold wV at HR ⊢
  obtain ⟨a, ha⟩ : ∃ a, a = loN u := ⟨_, rfl⟩
  obtain ⟨b, hb⟩ : ∃ b, b = hiN u := ⟨_, rfl⟩
  obtain ⟨c, hc⟩ : ∃ a, a = loN v := ⟨_, rfl⟩
  obtain ⟨d, hd⟩ : ∃ b, b = hiN v := ⟨_, rfl⟩
  obtain ⟨p, hp⟩ : ∃ p, p = loN (u ^^^ v) := ⟨_, rfl⟩
  obtain ⟨q, hq⟩ : ∃ q, q = hiN (u ^^^ v) := ⟨_, rfl⟩
  rw [← ha, ← hb, ← hc, ← hd]
  rw [← ha, ← hc, ← hp] at hx1
  rw [← hb, ← hd, ← hq] at hx2
  rw [← hp, ← hq] at HR
  clear ha hb hc hd hp hq hu hv
  obtain ⟨w2, hw2⟩ : ∃ w2, w2 = (w.alloc (.cells #[.int .u64 a, .int .u64 b] 104)).alloc (.cells #[.int .u64 c, .int .u64 d] 104) := ⟨_, rfl⟩
  have Hz2 : Hid (w2.heap.size = w.heap.size + 1 + 1) := Lib.hid (by rw [hw2]; simp)
  have Hb2 := Lib.hid (show Below w.heap.size w w2 from by rw [hw2]; exact ((Below.refl _ _).alloc (Nat.le_refl _) _).alloc (by simp) _)
  have HW2 := Lib.hid hw2
  clear hw2
  go_enter Tryz.func128, Tryz.ntmps128
  go_wp2_with fail
  rw [← HW2.out, ← Hz2.out]
  have y0 : (w2.alloc (.cells #[.int .u64 (p : Nat), .int .u64 (q : Nat)] 104)).cell? ⟨w2.heap.size, 0, none⟩ = some (.int .u64 (p : Nat)) := new_at rfl rfl
  have y1 : (w2.alloc (.cells #[.int .u64 (p : Nat), .int .u64 (q : Nat)] 104)).cell? ⟨w2.heap.size, 1, none⟩ = some (.int .u64 (q : Nat)) := new_at rfl rfl
  refine bodyPost_ret (v := .agg #[.int .u64 (p : Nat), .int .u64 (q : Nat)]) (by simp [results, Tryz.results128, go_sem, y0, y1]) rfl ?_
  rw [HR.out]
  exact ⟨rfl, Hb2.out.alloc Hb2.out.size _⟩
/-- the place of the greatest digit that is 1, or -1 -/
def topI (v : Nat) : Int := if v = 0 then -1 else (Nat.log2 v : Int)
theorem len64_any (x : Nat) (w : World) (h : x < 18446744073709551616) : Calls Tryz.prog 139 #[.int .u64 x] w (RetI (Lib.bitLen x : Nat) w) := by
  have := Any.bits_Len64 Tryz.len64L (x : Int) w (by omega) (by omega)
  exact this.mono fun e w' h => ⟨by rw [h.1, Int.toNat_natCast], h.2⟩
theorem bitLen_log {x : Nat} (h : x < 18446744073709551616) (h0 : x ≠ 0) : Lib.bitLen x = Nat.log2 x + 1 := by
  obtain ⟨b1, b2, b3⟩ := Lib.bitLenAux_bounds 64 x h h0
  have e : Lib.bitLen x = Lib.bitLenAux 64 x := rfl
  rw [e]
  obtain ⟨k, hk⟩ : ∃ k, Lib.bitLenAux 64 x = k + 1 := ⟨Lib.bitLenAux 64 x - 1, by omega⟩
  rw [hk] at b2 b3 ⊢
  have := (Nat.log2_eq_iff h0 (k := k)).2 ⟨by simpa using b2, b3⟩
  omega
theorem topI_lo {v : Nat} (h : hiN v = 0) : topI v = (Lib.bitLen (loN v) : Int) - 1 := by
  have e : loN v = v := by unfold loN hiN at *; omega
  rw [e]
  unfold topI
  by_cases h0 : v = 0
  · subst h0; rfl
  · rw [if_neg h0, bitLen_log (by have := loN_lt v; omega) h0]; omega
theorem topI_hi {v : Nat} (hv : v < 2 ^ 128) (h : hiN v ≠ 0) : topI v = 63 + (Lib.bitLen (hiN v) : Int) := by
  have h0 : v ≠ 0 := by rintro rfl; exact h rfl
  unfold topI
  rw [if_neg h0, bitLen_log (hiN_lt hv) h]
  have h1 := (Nat.log2_eq_iff h (k := Nat.log2 (hiN v))).1 rfl
  have : Nat.log2 v = Nat.log2 (hiN v) + 64 := by
    refine (Nat.log2_eq_iff h0).2 ⟨?_, ?_⟩
    · rw [Nat.pow_add]
      exact Nat.le_trans (Nat.mul_le_mul_right _ h1.1) (Nat.div_mul_le_self v (2 ^ 64))
    · rw [show Nat.log2 (hiN v) + 64 + 1 = (Nat.log2 (hiN v) + 1) + 64 by omega, Nat.pow_add]
      exact (Nat.div_lt_iff_lt_mul (by decide)).1 h1.2
  omega
theorem topI_mask {M t : Pol} {w i : Nat} (hM : Asc M) (h : IsMask M t w) (ht : Asc t) (hne : t ≠ []) (hi : M[i]? = some (lastL t)) : topI w = i := by
  obtain ⟨h1, h2⟩ := h.top hM ht hne hi
  have h0 : w ≠ 0 := by rintro rfl; simp at h1
  unfold topI
  rw [if_neg h0]
  have := (Nat.log2_eq_iff h0 (k := i)).2 ⟨Nat.ge_two_pow_of_testBit h1, Nat.lt_pow_two_of_testBit _ fun j hj => h2 j (by omega)⟩
  omega
set_option maxRecDepth 100000 in
theorem topW_any (v : Nat) (w : World) (hv : v < 2 ^ 128) : Calls Tryz.prog 127 #[wV v] w (RetIb (topI v) w) := by
  unfold wV
  obtain ⟨a, ha⟩ : ∃ a, a = loN v := ⟨_, rfl⟩
  obtain ⟨b, hb⟩ : ∃ b, b = hiN v := ⟨_, rfl⟩
  rw [← ha, ← hb]
  have HAa := Lib.hid ha
  have HBb := Lib.hid hb
  have HV := Lib.hid hv
  have hal : a < 18446744073709551616 := by rw [ha]; exact loN_lt v
  have hbl : b < 18446744073709551616 := by rw [hb]; exact hiN_lt hv
  have HB := Lib.hid ((Below.refl w.heap.size w).alloc (Nat.le_refl _) (.cells #[.int .u64 a, .int .u64 b] 104))
  clear ha hb hv
  by_cases h : b = 0
  · have h2 : ((b : Int) != 0) = false := by simp [h]
    have h3 : (b != 0) = false := by simp [h]
    have HZ := Lib.hid h
    have C := Lib.hid (fun W : World => len64_any a W hal)
    obtain ⟨L, hL⟩ : ∃ L, L = Lib.bitLen a := ⟨_, rfl⟩
    rw [← hL] at C
    have HLb := Lib.hid hL
    have hL64 : L ≤ 64 := by rw [hL]; exact Lib.bitLen_le a 64 (by omega) (by omega)
    have hwr : IntKind.i64.wrap ((L : Int) - 1) = (L : Int) - 1 := by rw [IntKind.wrap_i64]; omega
    clear hL h
    go_enter Tryz.func127, Tryz.ntmps127
    go_wp2_with fail
    refine (C.out _).mono ?_
    rintro e w1 ⟨rfl, rfl⟩
    go_wp2_with fail
    go_ret
    refine RetIb.mk ?_ HB.out
    rw [topI_lo (by rw [← HBb.out]; exact HZ.out), ← HAa.out, HLb.out]
  · have h2 : ((b : Int) != 0) = true := by simp [h]
    have h3 : (b != 0) = true := by simp [h]
    have HZ := Lib.hid h
    have C := Lib.hid (fun W : World => len64_any b W hbl)
    obtain ⟨L, hL⟩ : ∃ L, L = Lib.bitLen b := ⟨_, rfl⟩
    rw [← hL] at C
    have HLb := Lib.hid hL
    have hL64 : L ≤ 64 := by rw [hL]; exact Lib.bitLen_le b 64 (by omega) (by omega)
    have hwr : IntKind.i64.wrap (63 + (L : Int)) = 63 + (L : Int) := by rw [IntKind.wrap_i64]; omega
    clear hL h
    go_enter Tryz.func127, Tryz.ntmps127
    go_wp2_with fail
    refine (C.out _).mono ?_
    rintro e w1 ⟨rfl, rfl⟩
    go_wp2_with fail
    go_ret
    refine RetIb.mk ?_ HB.out
    rw [topI_hi HV.out (by rw [← HBb.out]; exact HZ.out), ← HBb.out, HLb.out]
/-- the cells of a mask that may be written -/
abbrev maskC (b v : Nat) : List (Nat × Nat × Value) := [(b, 0, .int .u64 (loN v : Nat)), (b, 1, .int .u64 (hiN v : Nat))]
def RetFl (b v : Nat) (w : World) (e : Ending) (w' : World) : Prop := e = .returned (.tuple #[]) ∧ Cells (maskC b v) w' ∧ Below b w w' ∧ w'.heap.size = w.heap.size
set_option maxRecDepth 100000 in
theorem flip_any (b v i : Nat) (w : World) (h : Cells (maskC b v) w) (hv : v < 2 ^ 128) (hi : i < 128) : Calls Tryz.prog 130 #[.pointer (some ⟨b, 0, none⟩), .int .i64 i] w (RetFl b (v ^^^ 2 ^ i) w) := by
  have k0 := h.at_ (b := b) (o := 0) (V := .int .u64 (loN v : Nat)) (by simp)
  have k1 := h.at_ (b := b) (o := 1) (V := .int .u64 (hiN v : Nat)) (by simp)
  have f0 := h.fr (b := b) (o := 0) (V := .int .u64 (loN v : Nat)) (by simp)
  have f1 := h.fr (b := b) (o := 1) (V := .int .u64 (hiN v : Nat)) (by simp)
  have HC := Lib.hid h
  obtain ⟨X, hX⟩ : ∃ X, X = v ^^^ 2 ^ i := ⟨_, rfl⟩
  rw [← hX]
  have HX := Lib.hid hX
  clear h hX
  by_cases h : i < 64
  · have hq := tdiv64_lo h
    have hm := tmod64_lo h
    obtain ⟨P, hP⟩ : ∃ P, P = 2 ^ i := ⟨_, rfl⟩
    have hPl : P < 18446744073709551616 := by rw [hP]; exact Nat.pow_lt_pow_right (a := 2) (by decide) h
    have hwp : IntKind.u64.wrap ((2 : Int) ^ i) = (P : Int) := by
      have : ((2 : Int) ^ i) = ((P : Nat) : Int) := by rw [hP]; push_cast; rfl
      rw [this, IntKind.wrap_u64]; omega
    have hx : bits .xor .u64 ((loN v : Nat) : Int) (P : Int) = ((loN X : Nat) : Int) := by
      rw [bits_xorU (loN_lt v) hPl, HX.out, ← loN_xor, loN_pow h, hP]
    have HH := Lib.hid (show hiN X = hiN v by rw [HX.out, ← hiN_xor, hiN_pow h, Nat.xor_zero])
    have CE := Lib.hid (show Cells (maskC b X) ((w.setCell ⟨b, 0, none⟩ (.int .u64 (loN X : Nat))).drewN 1) from by
      have := (HC.out.set (by intro x hx; simp at hx; subst hx; simp) (.int .u64 (loN X : Nat))).drewN 1
      unfold maskC; rw [HH.out]; exact this)
    have BE := Lib.hid (below_drewN ((Below.refl b w).setCell (p := ⟨b, 0, none⟩) (Nat.le_refl _) (.int .u64 (loN X : Nat))) 1)
    clear hP hPl
    go_enter Tryz.func130, Tryz.ntmps130
    go_wp2_with fail
    go_region
    go_end0
    exact ⟨rfl, CE.out, BE.out, by simp [World.setCell]⟩
  · have hq := tdiv64_hi (Nat.le_of_not_lt h) hi
    have hm := tmod64_hi (Nat.le_of_not_lt h) hi
    obtain ⟨k, hk⟩ : ∃ k, k = i - 64 := ⟨_, rfl⟩
    rw [← hk] at hm
    have hk64 : k < 64 := by omega
    obtain ⟨P, hP⟩ : ∃ P, P = 2 ^ k := ⟨_, rfl⟩
    have hPl : P < 18446744073709551616 := by rw [hP]; exact Nat.pow_lt_pow_right (a := 2) (by decide) hk64
    have hwp : IntKind.u64.wrap ((2 : Int) ^ k) = (P : Int) := by
      have : ((2 : Int) ^ k) = ((P : Nat) : Int) := by rw [hP]; push_cast; rfl
      rw [this, IntKind.wrap_u64]; omega
    have hx : bits .xor .u64 ((hiN v : Nat) : Int) (P : Int) = ((hiN X : Nat) : Int) := by
      rw [bits_xorU (hiN_lt hv) hPl, HX.out, ← hiN_xor, hiN_pow2 (Nat.le_of_not_lt h), ← hk, hP]
    have HH := Lib.hid (show loN X = loN v by rw [HX.out, ← loN_xor, loN_pow2 (Nat.le_of_not_lt h), Nat.xor_zero])
    have CE := Lib.hid (show Cells (maskC b X) ((w.setCell ⟨b, 1, none⟩ (.int .u64 (hiN X : Nat))).drewN 1) from by
      have h2 := ((HC.out.sub (M := [(b, 1, .int .u64 (hiN v : Nat)), (b, 0, .int .u64 (loN v : Nat))]) (by intro x hx; simp at hx ⊢; rcases hx with rfl | rfl <;> simp)).set (by intro x hx; simp at hx; subst hx; simp) (.int .u64 (hiN X : Nat))).drewN 1
      unfold maskC; rw [HH.out]
      exact h2.sub (by intro x hx; simp at hx ⊢; rcases hx with rfl | rfl <;> simp))
    have BE := Lib.hid (below_drewN ((Below.refl b w).setCell (p := ⟨b, 1, none⟩) (Nat.le_refl _) (.int .u64 (hiN X : Nat))) 1)
    clear hP hPl hk
    go_enter Tryz.func130, Tryz.ntmps130
    go_wp2_with fail
    go_region
    go_end0
    exact ⟨rfl, CE.out, BE.out, by simp [World.setCell]⟩
end Go.Proofs.YtoodhbafleemjaaGreat

/- A map from places to masks that the call makes: look-up with 'ok', store. -/
namespace Go.Proofs.YtoodhbafleemjaaGreat
open Go.RowKit
open Go.ChangeMaps Go.MapKept Go.WideShapes
open Go.WideElems (Fit rd rg pl rd_val)
set_option linter.unusedVariables false

theorem keyN : Maps.Keyed Tryz.prog 3 := Maps.int_keyed Tryz.underlying3
theorem keyN_of {x : Int} (h : wfI x) : keyOf Tryz.prog 3 (.int .i64 x) = some (litI x) := Maps.keyOf_int_mk Tryz.underlying3 h
theorem wfN {i : Nat} (h : i < 1000) : wfI (i : Int) := wfI_mk (by omega) (by omega)
noncomputable def rdW (v : Value) : Option (DataW Unit × List MemPlace) :=
  match v with
  | .agg xs => (match xs.toList with | [.int .u64 a, .int .u64 b] => some (.agg [.lit (.int .u64 a), .lit (.int .u64 b)], []) | _ => none)
  | _ => none
def wD (n : Nat) : DataW Unit := .agg [.lit (.int .u64 (loN n : Nat)), .lit (.int .u64 (hiN n : Nat))]
theorem rdW_mk (n : Nat) : rdW (wV n) = some (wD n, []) := rfl
theorem rdW_inv {v : Value} {n : Nat} {ps : List MemPlace} (h : rdW v = some (wD n, ps)) : v = wV n := by
  unfold rdW at h
  split at h
  · rename_i xs
    split at h
    · rename_i a b e
      unfold wD at h
      simp only [Option.some.injEq, Prod.mk.injEq, DataW.agg.injEq, List.cons.injEq, DataW.lit.injEq, Lit.int.injEq, and_true, true_and] at h
      obtain ⟨⟨h1, h2⟩, _⟩ := h
      unfold wV
      rw [← h1, ← h2]
      congr 1
      apply Array.toList_inj.1
      rw [e]
    · cases h
  · cases h
theorem zeroW (w : World) : (zeroValue 104).run Tryz.prog w = .ok (wV 0) w := by kernel_rfl
/-- block b is a map that holds just the masks f, at most s of them -/
structure OwnW (w : World) (b s : Nat) (f : Nat → Option Nat) : Prop where
  map : ∃ D, w.ownsMap Tryz.prog 3 rdW b (Maps.size D) D ∧ Maps.size D ≤ s ∧ (∀ i : Nat, i < 1000 → Maps.has D (litI i) = (f i).isSome) ∧ ∀ (i v : Nat) z, i < 1000 → f i = some v → D.atKey (litI i) z = wD v
theorem OwnW.lt {w : World} {b s : Nat} {f : Nat → Option Nat} (h : OwnW w b s f) : b < w.heap.size := by
  obtain ⟨D, h1, _⟩ := h.map
  exact h1.lt
theorem OwnW.kept {w w' : World} {b s : Nat} {f : Nat → Option Nat} {row : Option Nat} (h : OwnW w b s f) (hg : w.grownBy w' row) (hr : some b ≠ row) : OwnW w' b s f := by
  obtain ⟨D, h1, h2⟩ := h.map
  exact ⟨D, h1.kept hg hr, h2⟩
theorem OwnW.below {w w' : World} {b s : Nat} {f : Nat → Option Nat} (h : OwnW w b s f) (hb : Below w.heap.size w w') : OwnW w' b s f := h.kept (grownBy_below hb) (by simp)
theorem OwnW.belowB {w w' : World} {b s B : Nat} {f : Nat → Option Nat} (h : OwnW w b s f) (hb : Below B w w') (hB : b < B) : OwnW w' b s f := by
  obtain ⟨D, ⟨es, clock, h1, h3⟩, h2⟩ := h.map
  exact ⟨D, ⟨es, clock, (hb.block b hB).trans h1, h3⟩, h2⟩
theorem OwnW.new (w : World) : OwnW (w.alloc (.map #[] 0)) w.heap.size 0 (fun _ => none) := by
  refine ⟨.map [], World.ownsMap_made w _ _ _, by simp [Maps.size], fun i hi => ?_, fun i v z hi h => by cases h⟩
  rw [Maps.has_eq]; simp
section
variable (w : World) {ops : Array Oper} {rest : List Oper} {o : Oper} {a : Act} {Q : Exit → Act → World → Prop}
theorem wpList_lookW (hg : o.guard = none) (m x : Operand) {t : TypeId} (hop : o.op = Op.lookup t m x true) (ht : Tryz.prog.underlying t = some (.map 3 104)) {b s i : Nat} {f : Nat → Option Nat} (hm : a.eval m = .map (some b)) (hx : a.eval x = .int .i64 i) (h : OwnW w b s f) (hi : i < 1000)
    (hK : wpList Tryz.prog ops Q rest (a.put o.dst (.tuple #[wV ((f i).getD 0), .bool (f i).isSome])) w) : wpList Tryz.prog ops Q (o :: rest) a w := by
  obtain ⟨D, h1, h2, h3, h4⟩ := h.map
  refine wpList_lookup_own_ok w hg m x t hop 3 104 keyN ht rdW (zeroW w) (wD 0) [] (rdW_mk 0) b (Maps.size D) D hm h1 (.int .i64 i) (litI i) hx (keyN_of (wfN hi)) fun v ps hv => ?_
  have hv2 : v = wV ((f i).getD 0) := by
    cases hf : f i with
    | none =>
      have hh : Maps.has D (litI i) = false := by rw [h3 i hi, hf]; rfl
      rw [Maps.atKey_of_not_has hh] at hv
      exact rdW_inv hv
    | some u =>
      rw [h4 i u _ hi hf] at hv
      exact rdW_inv hv
  rw [hv2, h3 i hi]
  exact hK
set_option maxRecDepth 100000 in
theorem run_putW {t : TypeId} (ht : Tryz.prog.underlying t = some (.map 3 104)) {b s i u : Nat} {f : Nat → Option Nat} (h : OwnW w b s f) (hi : i < 1000) (hs : s < 1000000) :
    ∃ w', (Instr.mapUpdate t (.map (some b)) (.int .i64 i) (.agg #[.int .u64 (loN u : Nat), .int .u64 (hiN u : Nat)])).run Tryz.prog w = .ok () w' ∧ OwnW w' b (s + 1) (fun j => if j = i then some u else f j) ∧ w.grownBy w' (some b) ∧ w'.heap.size = w.heap.size := by
  obtain ⟨D, h1, h2, h3, h4⟩ := h.map
  obtain ⟨w', hrun, r1, r2⟩ := h1.store keyN ht (Nat.lt_of_le_of_lt h2 (Nat.lt_trans hs (by decide))) (keyN_of (wfN hi)) (rdW_mk u)
  have hs' : w'.heap.size = w.heap.size := by obtain ⟨es, c, es', c', hb, rfl⟩ := r2; simp [setBlock]
  have hw := wfN hi
  have hsz := Maps.size_put (k := litI i) (d := wD u) (h1.tidy keyN)
  refine ⟨w', hrun, ⟨D.put (litI i) (wD u), ?_, ?_, fun j hj => ?_, fun j y z hj hy => ?_⟩, r2.grown, hs'⟩
  · rw [hsz]
    obtain ⟨es, clock, e1, e2, e3, e4⟩ := r1
    refine ⟨es, clock, e1, e2, ?_, e4⟩
    rw [← hsz, e4]
    simp [Maps.size, length_sorted]
  · rw [hsz]
    split <;> omega
  · by_cases hji : j = i
    · subst hji
      rw [Maps.has_put_same h1.isMap (litI_key (j : Int)), if_pos rfl]; rfl
    · rw [Maps.has_put_other (fun e => hji (by injection e with _ e; omega)), if_neg hji, h3 j hj]
  · by_cases hji : j = i
    · subst hji
      rw [if_pos rfl] at hy
      injection hy with hy
      subst hy
      exact Maps.atKey_put_same h1.isMap (litI_key (j : Int)) _ _
    · rw [if_neg hji] at hy
      rw [Maps.atKey_put_other (fun e => hji (by injection e with _ e; omega))]
      exact h4 j y z hj hy
end
end Go.Proofs.YtoodhbafleemjaaGreat
