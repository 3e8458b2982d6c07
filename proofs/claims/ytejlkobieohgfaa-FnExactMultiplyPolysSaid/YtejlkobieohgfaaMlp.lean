/- What MultiplyPolys answers; facts on products. -/
import Derived.Test.YtejlkobieohgfaaPlyA
namespace Go.Proofs.Ytejlkobieohgfaa
open Go.RowKit
set_option linter.unusedVariables false

def mlpO (v : Int) (f : List (List Int)) (u : Int) (g : List (List Int)) : Int × List (List Int) × Int :=
  if polB v f = true ∧ polB u g = true then
    (if v = u then (if 0 < f.length ∧ 0 < g.length ∧ 40 < degL f + degL g then (0, [], 3) else toldV v (oddL (prodsP f g))) else (0, [], 2))
  else (0, [], 1)
theorem mlpO_bad1 {v u : Int} {f g : List (List Int)} (h : polB v f = false) : mlpO v f u g = (0, [], 1) := by unfold mlpO; rw [if_neg (by rw [h]; simp)]
theorem mlpO_bad2 {v u : Int} {f g : List (List Int)} (h : polB u g = false) : mlpO v f u g = (0, [], 1) := by unfold mlpO; rw [if_neg (by rw [h]; simp)]
theorem mlpO_range {v u : Int} {f g : List (List Int)} (h1 : polB v f = true) (h2 : polB u g = true) (h : v ≠ u) : mlpO v f u g = (0, [], 2) := by
  unfold mlpO; rw [if_pos ⟨h1, h2⟩, if_neg h]
theorem mlpO_lim {v u : Int} {f g : List (List Int)} (h1 : polB v f = true) (h2 : polB u g = true) (h : v = u) (a : 0 < f.length) (b : 0 < g.length) (c : 40 < degL f + degL g) : mlpO v f u g = (0, [], 3) := by
  unfold mlpO; rw [if_pos ⟨h1, h2⟩, if_pos h, if_pos ⟨a, b, c⟩]
theorem mlpO_ok {v u : Int} {f g : List (List Int)} (h1 : polB v f = true) (h2 : polB u g = true) (h : v = u) (a : f.length = 0 ∨ g.length = 0 ∨ ¬ 40 < degL f + degL g) : mlpO v f u g = toldV v (oddL (prodsP f g)) := by
  have hn : ¬ (0 < f.length ∧ 0 < g.length ∧ 40 < degL f + degL g) := by
    rintro ⟨p, q, r⟩
    rcases a with a | a | a
    · omega
    · omega
    · exact a r
  unfold mlpO; rw [if_pos ⟨h1, h2⟩, if_pos h, if_neg hn]
theorem prodsP_nil {f g : List (List Int)} (a : f.length = 0 ∨ g.length = 0) : prodsP f g = [] := by
  rcases a with a | a
  · rw [List.eq_nil_of_length_eq_zero a]; rfl
  · rw [List.eq_nil_of_length_eq_zero a]; unfold prodsP; simp
theorem mlpO_void {v u : Int} {f g : List (List Int)} (h1 : polB v f = true) (h2 : polB u g = true) (h : v = u) (a : f.length = 0 ∨ g.length = 0) : mlpO v f u g = (v, [], 0) := by
  rw [mlpO_ok h1 h2 h (by rcases a with a | a; exact .inl a; exact .inr (.inl a)), prodsP_nil a]
  exact toldV_yes (by simp [oddL])
theorem prodsP_len (f g : List (List Int)) : (prodsP f g).length = f.length * g.length := by
  unfold prodsP
  induction f with
  | nil => simp
  | cons x f ih => rw [List.flatMap_cons, List.length_append, ih, List.length_map, List.length_cons, Nat.succ_mul, Nat.add_comm]
/-- the numbers of monomials of at most four variables -/
theorem enc_lt {k : Nat} {xss : List (List Int)} (h : ∀ x ∈ xss, Mono k x) (hk : k ≤ 4) : ∀ a ∈ xss.map encP, 0 ≤ a ∧ a < 1099511627776 := by
  intro a ha
  obtain ⟨x, hx, rfl⟩ := List.mem_map.1 ha
  obtain ⟨h1, h2⟩ := h x hx
  have h3 := encP_lt h1
  have hp : (64 : Nat) ^ x.length ≤ 64 ^ 4 := Nat.pow_le_pow_right (by decide) (by omega)
  have e9 : (64 : Nat) ^ 4 = 16777216 := by decide
  have h4 : (64 : Int) ^ x.length ≤ 16777216 := by
    rw [show (64 : Int) ^ x.length = ((64 ^ x.length : Nat) : Int) from by rw [Int.natCast_pow]; rfl]
    omega
  exact ⟨encP_nonneg h1, by omega⟩
theorem prods_mono {v : Int} {f g : List (List Int)} {k : Nat} (hf : PolF v f) (hg : PolF v g) (hk : v = k) (h : f.length = 0 ∨ g.length = 0 ∨ ¬ 40 < degL f + degL g) : ∀ x ∈ prodsP f g, Mono k x := by
  intro x hx
  rcases h with h | h | h
  · rw [prodsP_nil (.inl h)] at hx; cases hx
  · rw [prodsP_nil (.inr h)] at hx; cases hx
  · exact (prodsP_deg (hf.degs hk) (hg.degs hk) x hx).mono (by omega)
theorem prods_enc {v : Int} {f g : List (List Int)} {k : Nat} (hf : PolF v f) (hg : PolF v g) (hk : v = k) : (prodsP f g).map encP = (f.map encP).flatMap fun a => (g.map encP).map (a + ·) :=
  prodsP_enc (fun x hx => (hf.monos hk x hx).2) (fun x hx => (hg.monos hk x hx).2)
end Go.Proofs.Ytejlkobieohgfaa
