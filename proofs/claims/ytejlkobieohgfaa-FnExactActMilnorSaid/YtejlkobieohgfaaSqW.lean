/- Plain: squares of monomials, as the recursion lays them out; lengths. Slices of a slice of integers. -/
import Derived.Test.YtejlkobieohgfaaSqm
namespace Go.Proofs.Ytejlkobieohgfaa
open Go.RowKit
set_option linter.unusedVariables false

def sqF (n : Int) (t : List Int) (i : Int) (done : List Int) (j : Nat) : List Int := if n.toNat &&& j = j then (sqW t (i - j)).map (fun z => encP (done ++ [n + j] ++ z)) else []
theorem sqW_enc (n : Int) (t : List Int) (i : Int) (done : List Int) : (sqW (n :: t) i).map (fun z => encP (done ++ z)) = (List.range (min n i + 1).toNat).flatMap (sqF n t i done) := by
  simp only [sqW]
  rw [List.map_flatMap]
  congr 1
  funext j
  unfold sqF
  split
  · rw [List.map_map]
    congr 1
    funext z
    simp
  · rfl
theorem flat_range_len {F : Nat → List Int} {c : Nat} : ∀ (m : Nat), (∀ j, j < m → (F j).length ≤ c) → ((List.range m).flatMap F).length ≤ m * c
  | 0, _ => by simp
  | m + 1, h => by
    rw [List.range_succ, List.flatMap_append, List.length_append, Nat.succ_mul]
    have h1 := flat_range_len m fun j hj => h j (by omega)
    have h2 := h m (Nat.lt_succ_self _)
    simp only [List.flatMap_cons, List.flatMap_nil, List.append_nil]
    omega
theorem flat_range_len' {F : Nat → List (List Int)} {c : Nat} : ∀ (m : Nat), (∀ j, j < m → (F j).length ≤ c) → ((List.range m).flatMap F).length ≤ m * c
  | 0, _ => by simp
  | m + 1, h => by
    rw [List.range_succ, List.flatMap_append, List.length_append, Nat.succ_mul]
    have h1 := flat_range_len' m fun j hj => h j (by omega)
    have h2 := h m (Nat.lt_succ_self _)
    simp only [List.flatMap_cons, List.flatMap_nil, List.append_nil]
    omega
theorem sqW_len : ∀ (t : List Int) (i : Int), i ≤ 63 → (sqW t i).length ≤ 64 ^ t.length
  | [], i, _ => by
    simp only [sqW]
    split <;> simp
  | n :: t, i, hi => by
    simp only [sqW, List.length_cons]
    refine Nat.le_trans (flat_range_len' (c := 64 ^ t.length) _ fun j hj => ?_) ?_
    · split
      · rw [List.length_map]
        exact sqW_len t (i - j) (by omega)
      · simp
    · rw [Nat.pow_succ, Nat.mul_comm]
      exact Nat.mul_le_mul (Nat.le_refl _) (by omega)
theorem sqF_len {n : Int} {t : List Int} {i : Int} {done : List Int} (hi : i ≤ 63) (j : Nat) : (sqF n t i done j).length ≤ 64 ^ t.length := by
  unfold sqF
  split
  · rw [List.length_map]; exact sqW_len t _ (by omega)
  · simp
theorem sqF_part {n : Int} {t : List Int} {i : Int} {done : List Int} (hi : i ≤ 63) (m : Nat) : ((List.range m).flatMap (sqF n t i done)).length ≤ m * 64 ^ t.length := flat_range_len m fun j _ => sqF_len hi j
theorem flat_succ {F : Nat → List Int} (j : Nat) : (List.range (j + 1)).flatMap F = (List.range j).flatMap F ++ F j := by
  rw [List.range_succ, List.flatMap_append]; simp
theorem run_sufI (A : Option Addr) (n c m : Nat) (hm : m ≤ n) (W : World) : (Instr.sliceAt 29 (.slice A n c) (some (.int .i64 (m : Int))) Option.none Option.none).run Try.prog W = .ok (.slice (sufA A c m) (n - m) (c - m)) W := by
  have h : (m : Int) ≤ (n : Int) := by omega
  simp only [sufA]
  cases A with
  | none => simp [go_sem, Try.underlying29, h, sliced]
  | some ad =>
    by_cases hc : c = m
    · simp [go_sem, Try.underlying29, h, sliced, hc]
    · simp [go_sem, Try.underlying29, h, sliced, hc]
theorem run_full (A : Option Addr) (n c : Nat) (hn : n ≤ c) (W : World) : (Instr.sliceAt 29 (.slice A n c) Option.none (some (.int .i64 (n : Int))) (some (.int .i64 (n : Int)))).run Try.prog W = .ok (.slice A n n) W := by
  have h : (n : Int) ≤ (c : Int) := by omega
  have e : A.map (·.add 0) = A := by cases A <;> simp [addr_add_zero]
  simp [go_sem, Try.underlying29, h, sliced]
theorem RdS.full {w : World} {B n c : Nat} {A : Option Addr} {xs : List Int} (h : RdS w B A n c xs) : RdS w B A n n xs := ⟨h.len, Nat.le_refl _, h.cell⟩
end Go.Proofs.Ytejlkobieohgfaa
