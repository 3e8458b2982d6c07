/- Plain: bounds on lambda words; the loops of the relation; faults. -/
import Derived.Test.YthaokhjkibbplaaLam
namespace Go.Proofs.Ythaokhjkibbplaa
open Go.RowKit
set_option linter.unusedVariables false

def chk2 (y : List Int) : Bool := !admB y || (List.range 12).all fun a => !(decide ((a : Int) + sumZ y ≤ 11)) || decide ((bef F a y).length ≤ 64)
set_option maxRecDepth 100000 in
theorem chk2_all : allW 6 11 chk2 = true := by decide +kernel
theorem bef_len {a : Int} {y : List Int} (hy : admB y = true) (ha : 0 ≤ a) (hl : y.length ≤ 6) (hn : nonN y) (hs : a + sumZ y ≤ 11) : (bef F a y).length ≤ 64 := by
  have hy0 := sumZ_nonneg hn
  have h := allW_of chk2_all y hl hn (by omega)
  simp only [chk2, hy, Bool.not_true, Bool.false_or, List.all_eq_true] at h
  have h2 := h a.toNat (List.mem_range.2 (by omega))
  rw [Int.toNat_of_nonneg ha, decide_eq_true hs] at h2
  simpa using h2
theorem nodup_le {s u : List (List Int)} (h : s.Nodup) (hs : ∀ x ∈ s, x ∈ u) : s.length ≤ u.length := by
  induction s generalizing u with
  | nil => simp
  | cons x s ih =>
    obtain ⟨h1, h2⟩ := List.nodup_cons.1 h
    have hx := hs x (by simp)
    have := ih h2 (u := u.erase x) fun y hy => (List.mem_erase_of_ne (fun e => h1 (by rw [← e]; exact hy))).2 (hs y (List.mem_cons_of_mem _ hy))
    rw [List.length_erase_of_mem hx] at this
    have hp := List.length_pos_of_mem hx
    simp only [List.length_cons]
    omega
def wordsU : Nat → Nat → List (List Int)
  | 0, _ => [[]]
  | k + 1, m => [] :: (List.range (m + 1)).flatMap fun x => (wordsU k (m - x)).map fun y => (x : Int) :: y
theorem wordsU_len (k m : Nat) (hm : m ≤ 11) : (wordsU k m).length ≤ 13 ^ k := by
  induction k generalizing m with
  | zero => simp [wordsU]
  | succ k ih =>
    have h : ∀ r : List Nat, (∀ x ∈ r, True) → (r.flatMap fun x => (wordsU k (m - x)).map fun y => (x : Int) :: y).length ≤ r.length * 13 ^ k := by
      intro r _
      induction r with
      | nil => simp
      | cons x r ih2 =>
        rw [List.flatMap_cons, List.length_append, List.length_map, List.length_cons, Nat.add_mul, Nat.one_mul]
        have h1 := ih (m - x) (by omega)
        have h2 := ih2 (fun _ _ => trivial)
        omega
    have h1 := h (List.range (m + 1)) (fun _ _ => trivial)
    rw [List.length_range] at h1
    have h2 : (m + 1) * 13 ^ k ≤ 12 * 13 ^ k := Nat.mul_le_mul_right _ (by omega)
    have h3 : 1 ≤ 13 ^ k := Nat.one_le_pow _ _ (by omega)
    rw [wordsU, List.length_cons, Nat.pow_succ]
    omega
theorem mem_wordsU {k m : Nat} {y : List Int} (hl : y.length ≤ k) (hn : nonN y) (hs : sumZ y ≤ m) : y ∈ wordsU k m := by
  induction k generalizing m y with
  | zero =>
    have : y = [] := List.eq_nil_of_length_eq_zero (by omega)
    subst this
    simp [wordsU]
  | succ k ih =>
    cases y with
    | nil => simp [wordsU]
    | cons x y =>
      have hx := hn x (by simp)
      have hy : nonN y := fun z hz => hn z (List.mem_cons_of_mem _ hz)
      have hy0 := sumZ_nonneg hy
      simp only [sumZ] at hs
      refine List.mem_cons_of_mem _ (List.mem_flatMap.2 ⟨x.toNat, List.mem_range.2 (by omega), List.mem_map.2 ⟨y, ih (by simpa using hl) hy (by omega), ?_⟩⟩)
      rw [Int.toNat_of_nonneg hx]
def cntU : Nat → Nat → Nat
  | 0, _ => 1
  | k + 1, m => 1 + ((List.range (m + 1)).map fun x => cntU k (m - x)).sum
theorem wordsU_cnt (k m : Nat) : (wordsU k m).length = cntU k m := by
  induction k generalizing m with
  | zero => rfl
  | succ k ih =>
    rw [wordsU, cntU, List.length_cons, List.length_flatMap, Nat.add_comm]
    congr 3
    funext x
    rw [List.length_map, ih]
set_option maxRecDepth 100000 in
theorem wordsU_le : (wordsU 7 11).length ≤ 75582 := by rw [wordsU_cnt]; decide +kernel
/-- a word of the lambda algebra -/
def okW (w : List Int) : Prop := w.length ≤ 7 ∧ nonN w ∧ sumZ w ≤ 11
theorem asc_len {s : List (List Int)} (h : Asc s) (hs : ∀ x ∈ s, okW x) : s.length ≤ 75582 :=
  Nat.le_trans (nodup_le (asc_nodup h) fun x hx => mem_wordsU (hs x hx).1 (hs x hx).2.1 (by have := (hs x hx).2.2; omega)) wordsU_le

/-! ### the relation as a loop -/
def relC (a b : Int) (j : Nat) : Bool := decide (2 * (j : Int) < b - 2 * a - 1) && parB (b - 2 * a - 1 - j - 1) j
def relPr (a b : Int) (j : Nat) : Int × Int := (a + (b - 2 * a - 1) - j, 2 * a + 1 + j)
def relTo (a b : Int) (k : Nat) : List (Int × Int) := ((List.range k).filter (relC a b)).map (relPr a b)
theorem relP_eq (a b : Int) : relP a b = relTo a b 6 := rfl
theorem relTo_succ_yes {a b : Int} {k : Nat} (h : relC a b k = true) : relTo a b (k + 1) = relTo a b k ++ [relPr a b k] := by
  simp [relTo, List.range_succ, List.filter_append, h]
theorem relTo_succ_no {a b : Int} {k : Nat} (h : relC a b k = false) : relTo a b (k + 1) = relTo a b k := by
  simp [relTo, List.range_succ, List.filter_append, h]
theorem relTo_end {a b : Int} {k : Nat} (h : b - 2 * a - 1 ≤ 2 * (k : Int)) (hk : k ≤ 6) : relTo a b k = relP a b := by
  rw [relP_eq]
  obtain ⟨d, hd⟩ : ∃ d, 6 = k + d := ⟨6 - k, by omega⟩
  rw [hd]
  clear hd hk
  induction d with
  | zero => rfl
  | succ d ih =>
    rw [← Nat.add_assoc, relTo_succ_no (by simp only [relC, Bool.and_eq_false_iff, decide_eq_false_iff_not]; left; omega)]
    exact ih
theorem relTo_mem {a b : Int} {k : Nat} {p : Int × Int} (h : p ∈ relTo a b k) : ∃ j, j < k ∧ relC a b j = true ∧ p = relPr a b j := by
  obtain ⟨j, hj, rfl⟩ := List.mem_map.1 h
  obtain ⟨h1, h2⟩ := List.mem_filter.1 hj
  exact ⟨j, List.mem_range.1 h1, h2, rfl⟩

/-! ### the first fault of a word -/
def flt : List Int → Int
  | [] => -1
  | [_] => -1
  | a :: b :: r => if 2 * a < b then 0 else if flt (b :: r) < 0 then -1 else flt (b :: r) + 1
theorem flt_ge (w : List Int) : -1 ≤ flt w := by
  induction w with
  | nil => simp [flt]
  | cons a w ih =>
    cases w with
    | nil => simp [flt]
    | cons b r => rw [flt]; split; omega; split <;> omega
theorem flt_neg {w : List Int} (h : flt w < 0) : admB w = true := by
  induction w with
  | nil => rfl
  | cons a w ih =>
    cases w with
    | nil => rfl
    | cons b r =>
      rw [flt] at h
      split at h
      · omega
      · rename_i h1
        split at h
        · rename_i h2
          simp only [admB, Bool.and_eq_true, decide_eq_true_eq]
          exact ⟨by omega, ih h2⟩
        · omega
theorem flt_at {w : List Int} {k : Nat} (h : flt w = k) : ∃ u a b v, w = u ++ a :: b :: v ∧ u.length = k ∧ 2 * a < b := by
  induction w generalizing k with
  | nil => simp only [flt] at h; omega
  | cons a w ih =>
    cases w with
    | nil => simp only [flt] at h; omega
    | cons b r =>
      rw [flt] at h
      split at h
      · rename_i h1
        exact ⟨[], a, b, r, rfl, by simp; omega, h1⟩
      · split at h
        · omega
        · obtain ⟨u, c, d, v, e, hl, hcd⟩ := ih (k := k - 1) (by omega)
          exact ⟨a :: u, c, d, v, by rw [e]; rfl, by simp [hl]; omega, hcd⟩
theorem flt_step {w : List Int} {k : Nat} {x y : Int} (hx : Hid (w[k]? = some x)) (hy : Hid (w[k + 1]? = some y)) (h : ¬ 2 * x < y) : flt (w.drop k) = if flt (w.drop (k + 1)) < 0 then -1 else flt (w.drop (k + 1)) + 1 := by
  obtain ⟨h1, e1⟩ := List.getElem?_eq_some_iff.1 hx.out
  obtain ⟨h2, e2⟩ := List.getElem?_eq_some_iff.1 hy.out
  rw [List.drop_eq_getElem_cons h1, List.drop_eq_getElem_cons h2, e1, e2, flt, if_neg h]
theorem flt_hit {w : List Int} {k : Nat} {x y : Int} (hx : Hid (w[k]? = some x)) (hy : Hid (w[k + 1]? = some y)) (h : 2 * x < y) : flt (w.drop k) = 0 := by
  obtain ⟨h1, e1⟩ := List.getElem?_eq_some_iff.1 hx.out
  obtain ⟨h2, e2⟩ := List.getElem?_eq_some_iff.1 hy.out
  rw [List.drop_eq_getElem_cons h1, List.drop_eq_getElem_cons h2, e1, e2, flt, if_pos h]
theorem flt_end {w : List Int} {k : Nat} (h : w.length ≤ k + 1) : flt (w.drop k) = -1 := by
  have : (w.drop k).length ≤ 1 := by rw [List.length_drop]; omega
  match hd : w.drop k with
  | [] => rfl
  | [_] => rfl
  | _ :: _ :: _ => rw [hd] at this; simp at this
theorem bits_and {a b : Nat} (ha : a < 9223372036854775808) (hb : b < 9223372036854775808) : bits .and .i64 (a : Int) (b : Int) = ((a &&& b : Nat) : Int) := by
  have hx : a &&& b < 2 ^ 63 := Nat.and_lt_two_pow _ (by omega)
  have o : ∀ a : Nat, a < 9223372036854775808 → (BitVec.ofInt 64 (a : Int)).toNat = a := fun a ha => by
    rw [BitVec.ofInt_natCast, BitVec.toNat_ofNat]; exact Nat.mod_eq_of_lt (by omega)
  show IntKind.i64.wrap ((BitVec.ofInt 64 (a : Int) &&& BitVec.ofInt 64 (b : Int)).toNat : Int) = _
  rw [BitVec.toNat_and, o a ha, o b hb, IntKind.wrap_i64]
  omega
end Go.Proofs.Ythaokhjkibbplaa
