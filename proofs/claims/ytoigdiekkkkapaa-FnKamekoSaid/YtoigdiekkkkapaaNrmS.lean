/- spec.l09Poly, l09Normal, NormalForm. -/
import Derived.Test.YtoigdiekkkkapaaHitS
import Derived.Test.YtoigdiekkkkapaaHitC
import Derived.Test.YtoigdiekkkkapaaPlyA
namespace Go.Proofs.Ytoigdiekkkkapaa
open Go.RowKit
set_option linter.unusedVariables false

theorem pol_within' {v : Int} {f : Pol} {k d : Nat} (hp : PolF v f) (hv : v = ((k + 1 : Nat) : Int)) (hd : degL f = d) : Within (mons k d) f := ⟨hp.asc, fun z hz => by
  have := hp.degs hv z hz
  rw [hd] at this
  exact (mons_mem k d z).2 this⟩
theorem gens_hit {k d : Nat} : Gens (mons k d) (gensTo k d (hitJ d)) := gens_J (fun j hj => by
  unfold hitJ at hj
  by_cases hd : d = 0
  · rw [if_pos hd] at hj; omega
  · rw [if_neg hd] at hj
    exact Nat.le_trans (Nat.pow_le_pow_right (by decide) (by omega : j ≤ Nat.log2 d)) (Nat.log2_self_le hd))
theorem degL_nonneg {v : Int} {f : Pol} (hp : PolF v f) (h : 0 < f.length) : 0 ≤ degL f := by
  rw [hp.deg.1]
  have hm : f.headD [] ∈ f := by
    match f, h with
    | x :: _, _ => simp
  exact sum_nonneg' fun a ha => ((hp.each _ hm).2.1 a ha).1
/-- how many variables and what degree -/
theorem pol_kd {v : Int} {f : Pol} (hp : PolF v f) (h : 0 < f.length) : ∃ k d : Nat, v = ((k + 1 : Nat) : Int) ∧ degL f = d ∧ k ≤ 3 ∧ d ≤ 40 := by
  have h1 := hp.lo
  have h2 := hp.hi
  have h3 := hp.deg.2
  have h4 := degL_nonneg hp h
  exact ⟨(v - 1).toNat, (degL f).toNat, by omega, by omega, by omega, by omega⟩
/-- what lies within the limit -/
theorem nrm_lim0 {v : Int} {f : Pol} {k d : Nat} (h : polB v f = true) (h0 : 0 < f.length) (hv : v = ((k + 1 : Nat) : Int)) (hd : degL f = d) (hc : (nrmO v f).2.2 = 0) : (mons k d).length ≤ 100 := by
  rcases Nat.lt_or_ge 100 (mons k d).length with h1 | h1
  · rw [nrmO_lim h h0 hv hd h1] at hc; cases hc
  · exact h1
theorem nrmO_bounds (v : Int) (f : Pol) : (nrmO v f).2.1.length ≤ 2000000 ∧ totalL (nrmO v f).2.1 ≤ 1000000000 := by
  cases hp : polB v f with
  | false => rw [nrmO_bad hp]; simp [totalL]
  | true =>
    by_cases hz : f.length = 0
    · rw [nrmO_void hp hz]; simp [totalL]
    · obtain ⟨k, d, hk, hd, hk3, hd40⟩ := pol_kd (polF_of hp) (by omega)
      by_cases hlim : 100 < (mons k d).length
      · rw [nrmO_lim hp (by omega) hk hd hlim]; simp [totalL]
      · rw [nrmO_ok hp (by omega) hk hd hlim]
        have hW : Within (mons k d) (redT (hitR k d) f) := (pol_within' (polF_of hp) hk hd).redT fun r hr => (gens_hit.rows r hr).1
        have h1 := hW.len (mons_small hk3 hd40)
        have h2 := hW.total (mons_small hk3 hd40)
        exact ⟨by show (redT (hitR k d) f).length ≤ _; omega, by show totalL (redT (hitR k d) f) ≤ _; omega⟩
end Go.Proofs.Ytoigdiekkkkapaa
