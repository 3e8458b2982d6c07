/- Vectors as masks, degrees of a mask, the lowest digit: plain; maskOf, digitsOf, vectorOf, inDegree, isVector, acted; l12Degree, l11Vector. -/
import Derived.Test.YtejojliljplcdaaGreatDoorUnsP
import Derived.Lib.TrailingZeros
namespace Go.Proofs.YtejojliljplcdaaGreatDoor
open Go.RowKit
set_option linter.unusedVariables false

theorem modB_tabF {ds : List Int} {act : List (List Int)} (h : modB ds act = true) : TabF ds act := by
  unfold modB at h
  exact tabF_of (Bool.and_eq_true_iff.1 h).1
theorem modB_tabB {ds : List Int} {act : List (List Int)} (h : modB ds act = true) : tabB ds act = true := by
  unfold modB at h
  exact (Bool.and_eq_true_iff.1 h).1
theorem modB_stem {ds : List Int} {act : List (List Int)} (h : modB ds act = true) : ∀ d ∈ ds, 0 ≤ d ∧ d ≤ 20 := stem_mem (tab_sort (modB_tabB h)).2

def anN (x y : Nat) : Nat := x ^^^ (x &&& y)
theorem bits_anN {a b : Nat} (ha : a < 9223372036854775808) (hb : b < 9223372036854775808) : bits .andNot .i64 (a : Int) (b : Int) = ((anN a b : Nat) : Int) := by
  have e : a &&& (2 ^ 64 - 1 - b) = anN a b := by
    apply Nat.eq_of_testBit_eq
    intro i
    unfold anN
    rw [Nat.testBit_and, Nat.testBit_xor, Nat.testBit_and, show 2 ^ 64 - 1 - b = 2 ^ 64 - (b + 1) from by omega, Nat.testBit_two_pow_sub_succ (by omega)]
    by_cases hi : i < 64
    · rw [decide_eq_true hi]; cases a.testBit i <;> cases b.testBit i <;> rfl
    · have h0 : a.testBit i = false := Nat.testBit_lt_two_pow (Nat.lt_of_lt_of_le (show a < 2 ^ 63 from ha) (Nat.pow_le_pow_right (by decide) (by omega)))
      rw [h0]; rfl
  have hx : anN a b < 2 ^ 63 := by unfold anN; exact Nat.xor_lt_two_pow (by omega) (Nat.and_lt_two_pow _ (by omega))
  show IntKind.i64.wrap ((BitVec.ofInt 64 (a : Int) &&& ~~~BitVec.ofInt 64 (b : Int)).toNat : Int) = _
  rw [BitVec.toNat_and, BitVec.toNat_not, ofInt_nat ha, ofInt_nat hb, e, IntKind.wrap_i64]
  omega
/-- the digits at which an element of a degree stands -/
def degM (ds : List Int) (d : Int) : Nat → Nat
  | 0 => 0
  | k + 1 => degM ds d k ||| (if ds[k]? = some d then 2 ^ k else 0)
theorem degM_bit {ds : List Int} {d : Int} {i : Nat} : ∀ {k : Nat}, (degM ds d k).testBit i = decide (i < k ∧ ds[i]? = some d)
  | 0 => by simp [degM]
  | k + 1 => by
    rw [degM, Nat.testBit_or, degM_bit]
    have h2 : (if ds[k]? = some d then 2 ^ k else 0).testBit i = decide (i = k ∧ ds[i]? = some d) := by
      split
      · next h =>
        rw [Nat.testBit_two_pow]
        by_cases e : k = i
        · subst e; simp [h]
        · rw [decide_eq_false e, decide_eq_false (fun k => e k.1.symm)]
      · next h =>
        rw [Nat.zero_testBit, eq_comm, decide_eq_false_iff_not]
        rintro ⟨rfl, k⟩
        exact h k
    rw [h2, ← Bool.decide_or, decide_eq_decide]
    constructor
    · rintro (⟨a, b⟩ | ⟨a, b⟩)
      · exact ⟨by omega, b⟩
      · exact ⟨by omega, b⟩
    · rintro ⟨a, b⟩
      by_cases e : i = k
      · exact .inr ⟨e, b⟩
      · exact .inl ⟨by omega, b⟩
theorem degM_lt {ds : List Int} {d : Int} {k : Nat} : degM ds d k < 2 ^ k := by
  apply Nat.lt_pow_two_of_testBit
  intro i hi
  rw [degM_bit, decide_eq_false]
  rintro ⟨a, _⟩
  omega
/-- all digits of a mask have a degree -/
def Hm (ds : List Int) (x : Nat) (d : Int) : Prop := ∀ i, x.testBit i = true → ds[i]? = some d
theorem anN_zero {ds : List Int} {x n : Nat} {d : Int} (hx : x < 2 ^ n) : anN x (degM ds d n) = 0 ↔ Hm ds x d := by
  unfold anN
  rw [xor_zero_iff]
  constructor
  · intro h i hi
    have h1 : (x &&& degM ds d n).testBit i = true := by rw [← h]; exact hi
    rw [Nat.testBit_and, Bool.and_eq_true, degM_bit] at h1
    exact (of_decide_eq_true h1.2).2
  · intro h
    apply Nat.eq_of_testBit_eq
    intro i
    rw [Nat.testBit_and, degM_bit]
    cases hi : x.testBit i
    · rfl
    · have hin : i < n := by
        apply Nat.lt_of_not_le
        intro hn
        have := Nat.testBit_lt_two_pow (Nat.lt_of_lt_of_le hx (Nat.pow_le_pow_right (by decide) hn))
        rw [hi] at this; cases this
      rw [decide_eq_true ⟨hin, h i hi⟩]; rfl
/-- the degree of the last digit -/
def dgT (ds : List Int) (x : Nat) : Nat → Int
  | 0 => 0
  | k + 1 => if x.testBit k = true then ds[k]?.getD 0 else dgT ds x k
theorem dgT_ex {ds : List Int} {x : Nat} : ∀ {k : Nat}, (dgT ds x k = 0 ∧ ∀ i, i < k → x.testBit i = false) ∨ ∃ i, i < k ∧ x.testBit i = true ∧ dgT ds x k = ds[i]?.getD 0
  | 0 => .inl ⟨rfl, fun i hi => by omega⟩
  | k + 1 => by
    rw [dgT]
    split
    · next h => exact .inr ⟨k, by omega, h, rfl⟩
    · next h =>
      rcases dgT_ex (ds := ds) (x := x) (k := k) with ⟨a, b⟩ | ⟨i, a, b, c⟩
      · refine .inl ⟨a, fun i hi => ?_⟩
        by_cases e : i = k
        · subst e; simpa using h
        · exact b i (by omega)
      · exact .inr ⟨i, by omega, b, c⟩
theorem bit_lt {x n i : Nat} (hx : x < 2 ^ n) (h : x.testBit i = true) : i < n := by
  apply Nat.lt_of_not_le
  intro hn
  have := Nat.testBit_lt_two_pow (Nat.lt_of_lt_of_le hx (Nat.pow_le_pow_right (by decide) hn))
  rw [h] at this; cases this
theorem ctz_bit {x : Nat} (h0 : x ≠ 0) (hx : x < 2 ^ 64) : x.testBit (Lib.ctz 64 x) = true := by
  unfold Lib.ctz
  rw [if_neg h0]
  obtain ⟨m, hm, _⟩ := Lib.ctzFrom_spec 64 x (by omega) hx
  generalize Lib.ctzFrom 64 x = k at hm ⊢
  rw [hm, Nat.testBit_eq_decide_div_mod_eq, Nat.mul_div_cancel_left _ (Nat.two_pow_pos k)]
  exact decide_eq_true (by omega)
/-- the degree of the first digit -/
def dgF (ds : List Int) (x : Nat) : Int := if x = 0 then 0 else ds[Lib.ctz 64 x]?.getD 0
theorem dgF_eq {ds : List Int} {x n : Nat} {d : Int} (hx : x < 2 ^ n) (hn : n ≤ 16) (h : Hm ds x d) (hd : x = 0 → d = 0) : dgF ds x = d ∧ dgT ds x n = d := by
  by_cases h0 : x = 0
  · subst h0
    refine ⟨by unfold dgF; rw [if_pos rfl, hd rfl], ?_⟩
    rcases dgT_ex (ds := ds) (x := 0) (k := n) with ⟨a, _⟩ | ⟨i, _, b, _⟩
    · rw [a, hd rfl]
    · simp at b
  · have hb := ctz_bit h0 (Nat.lt_of_lt_of_le hx (Nat.pow_le_pow_right (by decide) (by omega)))
    refine ⟨by unfold dgF; rw [if_neg h0, h _ hb]; rfl, ?_⟩
    rcases dgT_ex (ds := ds) (x := x) (k := n) with ⟨_, a⟩ | ⟨i, _, b, c⟩
    · have := a _ (bit_lt hx hb)
      rw [hb] at this; cases this
    · rw [c, h i b]; rfl
theorem hm_both {ds : List Int} {x n : Nat} (hx : x < 2 ^ n) (hn : n ≤ 16) : Hm ds x (dgF ds x) ↔ Hm ds x (dgT ds x n) := by
  by_cases h0 : x = 0
  · subst h0
    exact ⟨fun _ i hi => by simp at hi, fun _ i hi => by simp at hi⟩
  · constructor
    · intro h
      have := dgF_eq hx hn h (fun e => absurd e h0)
      rw [this.2]; exact h
    · intro h
      have := dgF_eq hx hn h (fun e => absurd e h0)
      rw [this.1]; exact h
theorem dg_same {ds : List Int} {x n : Nat} (hx : x < 2 ^ n) (hn : n ≤ 16) (h : Hm ds x (dgF ds x)) : dgF ds x = dgT ds x n :=
  (dgF_eq hx hn h (fun e => by unfold dgF; rw [if_pos e])).2.symm
/-- what a vector is -/
def vecB (n : Nat) (v : List Int) : Bool := decide (v.length = n) && v.all fun z => inB z 0 1
theorem vecF_cons (x : Nat) (b : Bool) (n : Nat) : vecF (2 * x + b.toNat) (n + 1) = (if b = true then 1 else 0) :: vecF x n := by
  unfold vecF
  rw [List.range_succ_eq_map, List.map_cons, List.map_map]
  congr 1
  · unfold bitV
    rw [Nat.testBit_zero]
    cases b <;> simp <;> omega
  · apply List.map_congr_left
    intro i _
    show bitV _ (i + 1) = bitV x i
    unfold bitV
    rw [Nat.testBit_succ, show (2 * x + b.toNat) / 2 = x from by cases b <;> simp <;> omega]
theorem vec_ex : ∀ (v : List Int), (v.all fun z => inB z 0 1) = true → ∃ x, x < 2 ^ v.length ∧ v = vecF x v.length
  | [], _ => ⟨0, by simp, rfl⟩
  | z :: v, h => by
    rw [List.all_cons, Bool.and_eq_true] at h
    obtain ⟨x, hx, hv⟩ := vec_ex v h.2
    have hz := inB_iff.1 h.1
    refine ⟨2 * x + (z == 1).toNat, ?_, ?_⟩
    · rw [List.length_cons, Nat.pow_succ]
      cases (z == 1) <;> simp <;> omega
    · rw [List.length_cons, vecF_cons, ← hv]
      congr 1
      by_cases e : z = 1
      · subst e; rfl
      · have : z = 0 := by omega
        subst this; rfl
theorem vecB_ex {n : Nat} {v : List Int} (h : vecB n v = true) : v.length = n ∧ ∃ x, x < 2 ^ n ∧ v = vecF x n := by
  unfold vecB at h
  rw [Bool.and_eq_true] at h
  have hl := of_decide_eq_true h.1
  obtain ⟨x, h1, h2⟩ := vec_ex v h.2
  rw [hl] at h1 h2
  exact ⟨hl, x, h1, h2⟩
end Go.Proofs.YtejojliljplcdaaGreatDoor
