/- Vectors of noughts and ones: plain. -/
import Derived.Test.YtdpkhgkoeoiemaaTabX
namespace Go.Proofs.Ytdpkhgkoeoiemaa
open Go.RowKit
set_option linter.unusedVariables false

def bitV (m i : Nat) : Int := if m.testBit i = true then 1 else 0
def vecF (m n : Nat) : List Int := (List.range n).map (bitV m)
theorem bitV_yes {m i : Nat} (h : m.testBit i = true) : bitV m i = 1 := if_pos h
theorem bitV_no {m i : Nat} (h : ¬ m.testBit i = true) : bitV m i = 0 := if_neg h
theorem bitV_cases (m i : Nat) : bitV m i = 0 ∨ bitV m i = 1 := by unfold bitV; split <;> simp
theorem bitV_xor (m p i : Nat) : bitV (m ^^^ p) i = (bitV m i + bitV p i) % 2 := by
  unfold bitV
  rw [Nat.testBit_xor]
  cases m.testBit i <;> cases p.testBit i <;> rfl
theorem vecF_len (m n : Nat) : (vecF m n).length = n := by simp [vecF]
theorem vecF_at {m n i : Nat} (h : i < n) : (vecF m n)[i]? = some (bitV m i) := by simp [vecF, h]
theorem vecF_take {m n k : Nat} (h : k ≤ n) : (vecF m n).take k = vecF m k := by
  unfold vecF
  rw [← List.map_take, List.take_range, Nat.min_eq_left h]
theorem vecF_snoc (m k : Nat) : vecF m k ++ [bitV m k] = vecF m (k + 1) := by
  unfold vecF
  rw [List.range_succ, List.map_append]; rfl
theorem vecF_ext {xs : List Int} {m n : Nat} (hl : xs.length = n) (h : ∀ i, i < n → xs[i]? = some (bitV m i)) : xs = vecF m n := by
  apply List.ext_getElem?
  intro i
  by_cases hi : i < n
  · rw [h i hi, vecF_at hi]
  · rw [List.getElem?_eq_none (by omega), List.getElem?_eq_none (by rw [vecF_len]; omega)]
theorem vecF_zero (n : Nat) : List.replicate n (0 : Int) = vecF 0 n := vecF_ext (by simp) fun i hi => by
  rw [List.getElem?_replicate, if_pos hi, bitV_no (by simp)]
theorem vecF_tog {m n c : Nat} (hc : c < n) : (vecF m n).set c (1 - bitV m c) = vecF (m ^^^ 2 ^ c) n := vecF_ext (by rw [List.length_set, vecF_len]) fun i hi => by
  by_cases e : c = i
  · subst e
    rw [List.getElem?_set_self (by rw [vecF_len]; exact hi)]
    congr 1
    have : (m ^^^ 2 ^ c).testBit c = !m.testBit c := by rw [Nat.testBit_xor, Nat.testBit_two_pow_self]; cases m.testBit c <;> rfl
    unfold bitV
    rw [this]
    cases m.testBit c <;> rfl
  · rw [List.getElem?_set_ne e, vecF_at hi]
    congr 1
    unfold bitV
    rw [Nat.testBit_xor, Nat.testBit_two_pow, decide_eq_false e]
    simp
theorem vecF_unit {n c : Nat} (hc : c < n) : (vecF 0 n).set c 1 = vecF (2 ^ c) n := by
  have h := vecF_tog (m := 0) hc
  rw [bitV_no (by simp), Nat.zero_xor] at h
  exact h
theorem vecF_inj {m p n : Nat} (hm : m < 2 ^ n) (hp : p < 2 ^ n) (h : vecF m n = vecF p n) : m = p := by
  apply Nat.eq_of_testBit_eq
  intro i
  by_cases hi : i < n
  · have h1 := vecF_at (m := m) hi
    rw [h, vecF_at hi] at h1
    have h2 : bitV p i = bitV m i := Option.some.inj h1
    unfold bitV at h2
    cases hx : m.testBit i <;> cases hy : p.testBit i <;> simp [hx, hy] at h2 ⊢
  · have hpow : 2 ^ n ≤ 2 ^ i := Nat.pow_le_pow_right (by decide) (by omega)
    rw [Nat.testBit_lt_two_pow (by omega), Nat.testBit_lt_two_pow (by omega)]
theorem actF_snoc (T : List Tri) (k v : Nat) (t : Tri) : actF (T ++ [t]) k v = actS k v (actF T k v) t := by
  unfold actF
  rw [List.foldl_append]; rfl
theorem actS_yes {k v m : Nat} {t : Tri} (h1 : t.1 = k) (h2 : v.testBit t.2.1 = true) : actS k v m t = m ^^^ 2 ^ t.2.2 := if_pos ⟨h1, h2⟩
theorem actS_no {k v m : Nat} {t : Tri} (h : ¬ (t.1 = k ∧ v.testBit t.2.1 = true)) : actS k v m t = m := if_neg h
theorem spA_zero (T : List Tri) (v : Nat) : spA T 0 v = v := rfl
theorem spA_pos (T : List Tri) {k : Nat} (v : Nat) (h : k ≠ 0) : spA T k v = actF T k v := if_neg h
theorem spW_drop {T : List Tri} {w : List Int} {i : Nat} {x : Int} (h : w[i]? = some x) (v : Nat) : spW T (w.drop i) v = spA T x.toNat (spW T (w.drop (i + 1)) v) := by
  obtain ⟨hi, e⟩ := List.getElem?_eq_some_iff.1 h
  rw [List.drop_eq_getElem_cons hi, e]; rfl
theorem spW_end (T : List Tri) {w : List Int} {i : Nat} (h : w.length ≤ i) (v : Nat) : spW T (w.drop i) v = v := by
  rw [List.drop_of_length_le h]; rfl
theorem xorL_take {α : Type} {f : α → Nat} {l : List α} {i : Nat} {x : α} (h : l[i]? = some x) : xorL f (l.take (i + 1)) = xorL f (l.take i) ^^^ f x := by
  rw [List.take_add_one, h]
  exact xorL_snoc f _ _

/-- a word with a square in front -/
def frontW (i : Int) (xs : List Int) : List Int := if i = 0 then xs else i :: xs
theorem wrd_front {a b j : Nat} (h : 0 < a + b - j) (hj : j ≤ a) : frontW (((a + b - j : Nat) : Int)) (frontW (j : Int) []) = wrd a b j := by
  unfold frontW wrd
  by_cases e : j = 0
  · subst e
    simp
    omega
  · rw [if_neg (by omega), if_neg (by omega), if_neg e]
    congr 1
    omega
theorem relP_snoc {a b m : Nat} : relP a b (m + 1) = relP a b m ++ (if ((b - 1 - m) &&& (a - 2 * m) == a - 2 * m) = true then [m] else []) := by
  by_cases h : ((b - 1 - m) &&& (a - 2 * m) == a - 2 * m) = true
  · rw [relP_yes h, if_pos h]
  · rw [relP_no (by simpa using h), if_neg h, List.append_nil]
/-- what stands in out while the relation is summed -/
def leftP (a b m : Nat) : List (List Int) := oddL ((relP a b m).map (wrd a b))
theorem leftP_yes {a b m : Nat} (h : ((b - 1 - m) &&& (a - 2 * m) == a - 2 * m) = true) : oddL (leftP a b m ++ [wrd a b m]) = leftP a b (m + 1) := by
  unfold leftP
  rw [relP_yes h, List.map_append]
  exact oddL_congr ((oddL_same _).append (SameSum.refl _))
theorem leftP_no {a b m : Nat} (h : ((b - 1 - m) &&& (a - 2 * m) == a - 2 * m) = false) : leftP a b (m + 1) = leftP a b m := by
  unfold leftP
  rw [relP_no h]
theorem leftP_end (a b : Nat) : leftP a b (a / 2 + 1) = formF a b := rfl
theorem leftP_start (a b : Nat) : leftP a b 0 = [] := rfl
theorem leftP_asc (a b m : Nat) : Asc (leftP a b m) := oddL_asc _
theorem leftP_len (a b m : Nat) : (leftP a b m).length ≤ m := by
  refine Nat.le_trans (oddL_len _) ?_
  rw [List.length_map]
  exact relP_len a b m
theorem wrd_len (a b j : Nat) : (wrd a b j).length ≤ 2 := by unfold wrd; split <;> simp
theorem leftP_mem {a b m : Nat} {z : List Int} (h : z ∈ leftP a b m) : z.length ≤ 2 := by
  obtain ⟨j, _, rfl⟩ := List.mem_map.1 (oddL_mem h)
  exact wrd_len a b j
theorem totalL_le {c : Nat} : ∀ {xss : List (List Int)}, (∀ x ∈ xss, x.length ≤ c) → totalL xss ≤ c * xss.length
  | [], _ => Nat.zero_le _
  | x :: xs, h => by
    have h1 := h x (by simp)
    have h2 := totalL_le (fun y hy => h y (List.mem_cons_of_mem x hy))
    simp only [totalL, List.map_cons, List.sum_cons, List.length_cons] at h2 ⊢
    rw [Nat.mul_succ]
    omega
end Go.Proofs.Ytdpkhgkoeoiemaa
