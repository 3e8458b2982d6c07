/- Kameko's map up: plain. -/
import Derived.Test.YtoodhbafleemjaaGreatFrC
import Derived.Test.YtoodhbafleemjaaGreatWords
namespace Go.Proofs.YtoodhbafleemjaaGreat
open Go.RowKit
set_option linter.unusedVariables false

def upW (x : List Int) : List Int := x.map fun n => 2 * n + 1
def kamO (v : Int) (xss : List (List Int)) : Int × List (List Int) × Int :=
  if polB v xss then (if !xss.isEmpty && decide (40 < 2 * degL xss + v) then (0, [], 3) else (v, xss.map upW, 0)) else (0, [], 1)
theorem kamO_bad {v : Int} {xss : List (List Int)} (h : polB v xss = false) : kamO v xss = (0, [], 1) := by simp [kamO, h]
theorem kamO_lim {v : Int} {xss : List (List Int)} (h : polB v xss = true) (h2 : 0 < xss.length) (h3 : 40 < 2 * degL xss + v) : kamO v xss = (0, [], 3) := by
  have : xss.isEmpty = false := by cases xss with | nil => simp at h2 | cons x xs => rfl
  simp only [kamO, h, this, h3]; rfl
theorem kamO_ok {v : Int} {xss : List (List Int)} (h : polB v xss = true) (h2 : xss.length = 0 ∨ ¬ 40 < 2 * degL xss + v) : kamO v xss = (v, xss.map upW, 0) := by
  unfold kamO
  rw [if_pos h, if_neg]
  rcases h2 with h2 | h2
  · rw [List.eq_nil_of_length_eq_zero h2]; simp
  · rw [decide_eq_false h2]; simp

theorem psT_bd : ∀ (xs : List Int) (t : Int), 0 ≤ t → t + 40 * (xs.length : Int) ≤ 1000000 → (∀ z ∈ xs, 0 ≤ z ∧ z ≤ 40) → psT t xs = t + xs.sum ∧ 0 ≤ xs.sum ∧ xs.sum ≤ 40 * (xs.length : Int)
  | [], t, h0, h1, _ => by simp [psT]
  | x :: xs, t, h0, h1, h => by
    have hx := h x (by simp)
    have hl : ((x :: xs).length : Int) = (xs.length : Int) + 1 := by simp
    rw [hl] at h1 ⊢
    have e : psT t (x :: xs) = psT (t + x) xs := by
      have hw : wrap64 (t + x) = t + x := by unfold wrap64; omega
      rw [← hw]; rfl
    rw [e]
    have := psT_bd xs (t + x) (by omega) (by omega) fun z hz => h z (List.mem_cons_of_mem _ hz)
    rw [List.sum_cons]
    omega
/-- what a polynomial is -/
structure PolF (v : Int) (xss : List (List Int)) : Prop where
  lo : 1 ≤ v
  hi : v ≤ 4
  len : xss.length ≤ 2000
  each : ∀ x ∈ xss, (x.length : Int) = v ∧ (∀ z ∈ x, 0 ≤ z ∧ z ≤ 40) ∧ x.sum ≤ 40 ∧ 0 ≤ x.sum
  asc : Asc xss
  same : ∀ x ∈ xss, x.sum = (xss.headD []).sum
theorem polF_of {v : Int} {xss : List (List Int)} (h : polB v xss = true) : PolF v xss := by
  simp only [polB, Bool.and_eq_true, decide_eq_true_eq, List.all_eq_true] at h
  obtain ⟨⟨⟨⟨h1, h2⟩, h3⟩, h4⟩, h5⟩ := h
  have h6 := inB_iff.1 h1
  have hm : ∀ x ∈ xss, (x.length : Int) = v ∧ (∀ z ∈ x, 0 ≤ z ∧ z ≤ 40) ∧ psT 0 x = x.sum ∧ psT 0 x ≤ 40 ∧ 0 ≤ x.sum := by
    intro x hx
    have := h3 x hx
    simp only [monB, degsB, Bool.and_eq_true, decide_eq_true_eq, List.all_eq_true] at this
    obtain ⟨⟨k1, k2⟩, k3⟩ := this
    have k4 : ∀ z ∈ x, 0 ≤ z ∧ z ≤ 40 := fun z hz => inB_iff.1 (k2 z hz)
    have k5 := psT_bd x 0 (by omega) (by omega) k4
    exact ⟨k1, k4, by omega, k3, k5.2.1⟩
  refine ⟨h6.1, h6.2, h2, fun x hx => ?_, asc_risB.1 h4, fun x hx => ?_⟩
  · obtain ⟨a, b, c, d, e⟩ := hm x hx
    exact ⟨a, b, by omega, e⟩
  · simp only [sameB, List.all_eq_true, decide_eq_true_eq] at h5
    have e := h5 x hx
    obtain ⟨_, _, c, _, _⟩ := hm x hx
    cases xss with
    | nil => cases hx
    | cons y ys =>
      obtain ⟨_, _, c2, _, _⟩ := hm y (by simp)
      simp only [List.headD_cons] at e ⊢
      rw [← c, ← c2, e]
theorem PolF.deg {v : Int} {xss : List (List Int)} (h : PolF v xss) : degL xss = (xss.headD []).sum ∧ 0 ≤ degL xss ∧ degL xss ≤ 40 := by
  cases xss with
  | nil => simp [degL, psT]
  | cons y ys =>
    obtain ⟨a, b, c, d⟩ := h.each y (by simp)
    have h1 := h.hi
    have := psT_bd y 0 (by omega) (by omega) b
    simp only [degL, List.headD_cons]
    omega
theorem PolF.tot {v : Int} {xss : List (List Int)} (h : PolF v xss) : totalL xss ≤ 8000 := by
  have h1 := totalL_le xss 4 fun r hr => by have := (h.each r hr).1; have := h.hi; omega
  have := h.len
  omega

theorem cmpL_map {f : Int → Int} (hf : ∀ a b, a < b ↔ f a < f b) : ∀ x y : List Int, cmpL (x.map f) (y.map f) = cmpL x y
  | [], [] => rfl
  | [], _ :: _ => rfl
  | _ :: _, [] => rfl
  | a :: x, b :: y => by
    simp only [List.map_cons, cmpL]
    by_cases h1 : a < b
    · rw [if_pos ((hf a b).1 h1), if_pos h1]
    · rw [if_neg (fun h => h1 ((hf a b).2 h)), if_neg h1]
      by_cases h2 : b < a
      · rw [if_pos ((hf b a).1 h2), if_pos h2]
      · rw [if_neg (fun h => h2 ((hf b a).2 h)), if_neg h2, cmpL_map hf x y]
theorem upW_lt (x y : List Int) : ltL (upW x) (upW y) = ltL x y := by
  unfold ltL upW
  rw [cmpL_map (fun a b => by omega)]
theorem up_asc {xss : List (List Int)} (h : Asc xss) : Asc (xss.map upW) := by
  unfold Asc at h ⊢
  rw [List.pairwise_map]
  exact h.imp fun {a b} hab => by rw [upW_lt]; exact hab
theorem up_total (xss : List (List Int)) : totalL (xss.map upW) = totalL xss := by
  simp [totalL, upW, Function.comp_def]
theorem kamO_bounds (v : Int) (xss : List (List Int)) : (kamO v xss).2.1.length ≤ 2000 ∧ totalL (kamO v xss).2.1 ≤ 8000 := by
  unfold kamO
  split
  · rename_i h
    have hp := polF_of h
    split
    · simp [totalL]
    · simp only [List.length_map, up_total]
      exact ⟨hp.len, hp.tot⟩
  · simp [totalL]
theorem up_take_succ {x : List Int} {j : Nat} {z : Int} (h : x[j]? = some z) : upW (x.take (j + 1)) = upW (x.take j) ++ [2 * z + 1] := by
  rw [List.take_add_one, h]; simp [upW]
theorem ups_take_succ {xss : List (List Int)} {k : Nat} {x : List Int} (h : xss[k]? = some x) : (xss.take (k + 1)).map upW = (xss.take k).map upW ++ [upW x] := by
  rw [List.take_add_one, h]; simp
end Go.Proofs.YtoodhbafleemjaaGreat
