/- spec.l01Parity, spec.l08Monomial, spec.l08Square. -/
import Derived.Test.YtoigdiekkkkapaaSqm
import Derived.Test.YtoigdiekkkkapaaSumL
import Derived.Test.YtoigdiekkkkapaaWords
namespace Go.Proofs.Ytoigdiekkkkapaa
open Go.RowKit
set_option linter.unusedVariables false

def parB (n k : Int) : Bool := decide (n.toNat &&& k.toNat = k.toNat)
/-- what l08Monomial sums: Sq^i of the exponents from p on, those ahead as they are -/
def monT (term : List Int) (p : Nat) (i : Int) : List (List Int) := (sqW (term.drop p) i).map (term.take p ++ ·)
def monF (term : List Int) (p : Nat) (x i : Int) (j : Nat) : List (List Int) := if x.toNat &&& j = j then (sqW (term.drop (p + 1)) (i - j)).map (fun z => term.take p ++ (x + j) :: z) else []
theorem monT_flat {term : List Int} {p : Nat} {x i : Int} (h : term[p]? = some x) : monT term p i = (List.range (min x i + 1).toNat).flatMap (monF term p x i) := by
  obtain ⟨hp, e⟩ := List.getElem?_eq_some_iff.1 h
  unfold monT
  rw [List.drop_eq_getElem_cons hp, e]
  simp only [sqW]
  rw [List.map_flatMap]
  congr 1
  funext j
  unfold monF
  split
  · rw [List.map_map]
    congr 1
  · rfl
theorem monT_end {term : List Int} {p : Nat} {i : Int} (h : term.length = p) : monT term p i = if i = 0 then [term] else [] := by
  unfold monT
  rw [List.drop_of_length_le (by omega), List.take_of_length_le (by omega)]
  simp only [sqW]
  split <;> simp
theorem monT_len {term : List Int} {p : Nat} {i : Int} (hi : i ≤ 63) (hn : term.length ≤ 4) : (monT term p i).length ≤ 16777216 := by
  unfold monT
  rw [List.length_map]
  refine Nat.le_trans (sqW_len _ _ hi) ?_
  have e64 : (64 : Nat) ^ 4 = 16777216 := by decide
  rw [← e64]
  exact Nat.pow_le_pow_right (by decide) (by rw [List.length_drop]; omega)
theorem monT_each {term : List Int} {p : Nat} {i : Int} (h0 : ∀ a ∈ term, (0 : Int) ≤ a) : ∀ z ∈ monT term p i, z.length = term.length := by
  intro z hz
  obtain ⟨y, hy, rfl⟩ := List.mem_map.1 hz
  have := (sqW_deg (x := term.drop p) (fun a ha => h0 a (List.mem_of_mem_drop ha)) y hy).2.2
  rw [List.length_append, this, ← List.length_append, List.take_append_drop]
theorem monF_next {term : List Int} {p : Nat} {x i : Int} {j : Nat} (h : term[p]? = some x) (hj : x.toNat &&& j = j) : monF term p x i j = monT (term.set p (x + j)) (p + 1) (i - j) := by
  obtain ⟨hp, e⟩ := List.getElem?_eq_some_iff.1 h
  unfold monF monT
  rw [if_pos hj]
  have h1 : (term.set p (x + j)).drop (p + 1) = term.drop (p + 1) := by
    rw [List.drop_set]; simp
  have h2 : (term.set p (x + j)).take (p + 1) = term.take p ++ [x + (j : Int)] := by
    rw [List.take_add_one, List.take_set]
    rw [List.getElem?_set_self (by simpa using hp)]
    rw [List.set_eq_of_length_le (by rw [List.length_take]; omega)]
    rfl
  rw [h1, h2]
  congr 1
  funext z
  simp
theorem oddL_oddL (P Q : List (List Int)) : oddL (oddL P ++ oddL Q) = oddL (P ++ Q) := oddL_congr ((oddL_same P).append (oddL_same Q))
theorem flat_succL {F : Nat → List (List Int)} (j : Nat) : (List.range (j + 1)).flatMap F = (List.range j).flatMap F ++ F j := by
  rw [List.range_succ, List.flatMap_append]; simp
theorem totalL_oddL {L : List (List Int)} {c : Nat} (h : ∀ z ∈ L, z.length ≤ c) : totalL (oddL L) ≤ (oddL L).length * c := totalL_le _ c fun z hz => h z (oddL_mem hz)

theorem monT_zero (x : List Int) (i : Int) : monT x 0 i = sqW x i := by
  unfold monT
  rw [List.drop_zero, List.take_zero]
  simp
theorem sqP_take_succ {xss : List (List Int)} {m : Nat} {x : List Int} {i : Int} (h : Hid (xss[m]? = some x)) : sqP (xss.take (m + 1)) i = sqP (xss.take m) i ++ sqW x i := by
  unfold sqP
  rw [List.take_add_one, h.out, List.flatMap_append]
  simp
end Go.Proofs.Ytoigdiekkkkapaa
