/- Plain: all monomials of a degree, their order and their number. -/
import Derived.Test.YtoodhbafleemjaaGreatHitP
import Derived.Test.YtoodhbafleemjaaGreatPar
import Derived.Test.YtoodhbafleemjaaGreatSqm
import Derived.Test.YtoodhbafleemjaaGreatKam
namespace Go.Proofs.YtoodhbafleemjaaGreat
set_option linter.unusedVariables false

/-- all lists of k + 1 exponents with the sum d, in order -/
def mons : Nat → Nat → Pol
  | 0, d => [[(d : Int)]]
  | k + 1, d => (List.range (d + 1)).flatMap fun n => (mons k (d - n)).map ((n : Int) :: ·)
theorem mons_succ (k d : Nat) : (mons (k + 1) (d + 1)).length = (mons k (d + 1)).length + (mons (k + 1) d).length := by
  rw [mons, List.range_succ_eq_map, List.flatMap_cons, List.length_append, List.length_map, Nat.sub_zero]
  congr 1
  rw [mons, List.flatMap_map, List.length_flatMap, List.length_flatMap]
  congr 1
  refine List.map_congr_left fun n hn => ?_
  rw [List.length_map, List.length_map, show d + 1 - Nat.succ n = d - n by omega]
theorem mons_zero : ∀ k, (mons k 0).length = 1
  | 0 => rfl
  | k + 1 => by
    have := mons_zero k
    simp [mons, this]
theorem mons_len1 (d : Nat) : (mons 1 d).length = d + 1 := by
  induction d with
  | zero => exact mons_zero 1
  | succ d ih => rw [mons_succ, ih]; simp [mons]; omega
theorem mons_len2 (d : Nat) : 2 * (mons 2 d).length = (d + 1) * (d + 2) := by
  induction d with
  | zero => rw [mons_zero]
  | succ d ih =>
    rw [mons_succ, mons_len1, Nat.mul_add, ih]
    simp only [Nat.add_mul, Nat.mul_add]; omega
theorem mons_len3 (d : Nat) : 6 * (mons 3 d).length = (d + 1) * (d + 2) * (d + 3) := by
  induction d with
  | zero => rw [mons_zero]
  | succ d ih =>
    rw [mons_succ, Nat.mul_add, ih, show 6 * (mons 2 (d + 1)).length = 3 * (2 * (mons 2 (d + 1)).length) by omega, mons_len2]
    obtain ⟨p, hp⟩ : ∃ p, p = (d + 2) * (d + 3) := ⟨_, rfl⟩
    rw [show d + 1 + 1 = d + 2 from rfl, show d + 1 + 2 = d + 3 from rfl, show d + 1 + 3 = d + 4 from rfl, Nat.mul_assoc (d + 1), ← hp, Nat.mul_comm p, ← Nat.add_mul]
    congr 1
    omega
theorem mons_mem : ∀ (k d : Nat) (z : List Int), z ∈ mons k d ↔ Deg (k + 1) d z
  | 0, d, z => by
    rw [mons, List.mem_singleton]
    constructor
    · rintro rfl
      exact ⟨fun a ha => by rw [List.mem_singleton.1 ha]; omega, by simp, rfl⟩
    · rintro ⟨h1, h2, h3⟩
      match z, h3 with
      | [a], _ => simp at h2; rw [h2]
  | k + 1, d, z => by
    rw [mons, List.mem_flatMap]
    constructor
    · rintro ⟨n, hn, hz⟩
      obtain ⟨y, hy, rfl⟩ := List.mem_map.1 hz
      have hn := List.mem_range.1 hn
      obtain ⟨h1, h2, h3⟩ := (mons_mem k (d - n) y).1 hy
      refine ⟨fun a ha => ?_, by rw [List.sum_cons, h2]; omega, by rw [List.length_cons, h3]⟩
      rcases List.mem_cons.1 ha with rfl | ha
      · omega
      · exact h1 a ha
    · rintro ⟨h1, h2, h3⟩
      match z, h3 with
      | a :: y, h3 =>
        have ha := h1 a (by simp)
        have hy0 : ∀ b ∈ y, (0 : Int) ≤ b := fun b hb => h1 b (List.mem_cons_of_mem _ hb)
        have hs := sum_nonneg' hy0
        rw [List.sum_cons] at h2
        refine ⟨a.toNat, List.mem_range.2 (by omega), List.mem_map.2 ⟨y, (mons_mem k _ y).2 ⟨hy0, by omega, by simpa using h3⟩, by rw [Int.toNat_of_nonneg ha]⟩⟩
theorem ltL_head {a b : Int} {x y : List Int} (h : a < b) : ltL (a :: x) (b :: y) = true := by simp [ltL, cmpL, h]
theorem ltL_tail {a : Int} {x y : List Int} : ltL (a :: x) (a :: y) = ltL x y := by simp [ltL, cmpL]
theorem asc_flat {F : Nat → Pol} (hF : ∀ n, Asc (F n)) (hlt : ∀ n m, n < m → ∀ x ∈ F n, ∀ y ∈ F m, ltL x y = true) : ∀ n, Asc ((List.range n).flatMap F) := by
  intro n
  induction n with
  | zero => exact List.Pairwise.nil
  | succ n ih =>
    rw [List.range_succ, List.flatMap_append]
    refine List.pairwise_append.2 ⟨ih, by have := hF n; simpa [Asc] using this, fun x hx y hy => ?_⟩
    obtain ⟨m, hm, hx⟩ := List.mem_flatMap.1 hx
    exact hlt m n (List.mem_range.1 hm) x hx y (by simpa using hy)
theorem mons_asc : ∀ k d : Nat, Asc (mons k d)
  | 0, d => by simp [mons, Asc]
  | k + 1, d => by
    rw [mons]
    refine asc_flat (fun n => ?_) (fun n m hnm x hx y hy => ?_) (d + 1)
    · refine List.Pairwise.map _ (fun x y h => ?_) (mons_asc k (d - n))
      rw [ltL_tail]; exact h
    · obtain ⟨u, _, rfl⟩ := List.mem_map.1 hx
      obtain ⟨v, _, rfl⟩ := List.mem_map.1 hy
      exact ltL_head (by omega)
end Go.Proofs.YtoodhbafleemjaaGreat

/- Plain: the hit polynomials of a degree, as both sides make them one behind the other; normal forms. -/
namespace Go.Proofs.YtoodhbafleemjaaGreat
set_option linter.unusedVariables false

/-- the squares Sq^(2^j) of all monomials of k + 1 variables that lead to the degree d -/
def sqG (k d j : Nat) : List Pol := (mons k (d - 2 ^ j)).map fun x => oddL (sqP [x] ((2 ^ j : Nat) : Int))
def gensTo (k d J : Nat) : List Pol := (List.range J).flatMap (sqG k d)
theorem gensTo_succ (k d J : Nat) : gensTo k d (J + 1) = gensTo k d J ++ sqG k d J := by
  unfold gensTo; rw [List.range_succ, List.flatMap_append]; simp
theorem rowsP_append (a b : List Pol) : rowsP (a ++ b) = b.foldl addR (rowsP a) := by unfold rowsP; rw [List.foldl_append]
theorem rowsP_snoc (a : List Pol) (g : Pol) : rowsP (a ++ [g]) = addR (rowsP a) g := by rw [rowsP_append]; rfl
def hitJ (d : Nat) : Nat := if d = 0 then 0 else Nat.log2 d + 1
theorem hitJ_of {d J : Nat} (h1 : ∀ j < J, 2 ^ j ≤ d) (h2 : d < 2 ^ J) : J = hitJ d := by
  unfold hitJ
  by_cases hd : d = 0
  · rw [if_pos hd]
    subst hd
    rcases Nat.eq_zero_or_pos J with h | h
    · exact h
    · have := h1 0 h; simp at this
  · rw [if_neg hd]
    have h3 := (Nat.log2_lt hd).2 h2
    rcases Nat.lt_or_ge (Nat.log2 d + 1) J with h4 | h4
    · have h5 := h1 _ h4
      have h6 := Nat.lt_log2_self (n := d)
      omega
    · omega
theorem gens_sub {k d j : Nat} (hj : 2 ^ j ≤ d) : ∀ g ∈ sqG k d j, Asc g ∧ ∀ z ∈ g, z ∈ mons k d := by
  intro g hg
  obtain ⟨x, hx, rfl⟩ := List.mem_map.1 hg
  refine ⟨oddL_asc _, fun z hz => ?_⟩
  have h1 := (mons_mem k _ x).1 hx
  have h2 := sqP_deg (i := ((2 ^ j : Nat) : Int)) (xss := [x]) (k := k + 1) (d := ((d - 2 ^ j : Nat) : Int)) (fun y hy => by rw [List.mem_singleton.1 hy]; exact h1) z (oddL_mem hz)
  rw [show ((d - 2 ^ j : Nat) : Int) + ((2 ^ j : Nat) : Int) = (d : Int) by omega] at h2
  exact (mons_mem k d z).2 h2
theorem gensTo_sub {k d J : Nat} (h : ∀ j < J, 2 ^ j ≤ d) : ∀ g ∈ gensTo k d J, Asc g ∧ ∀ z ∈ g, z ∈ mons k d := by
  intro g hg
  obtain ⟨j, hj, hg⟩ := List.mem_flatMap.1 hg
  exact gens_sub (h j (List.mem_range.1 hj)) g hg
theorem rows_sub {M : Pol} (gs : List Pol) (h : ∀ g ∈ gs, ∀ z ∈ g, z ∈ M) : ∀ r ∈ rowsP gs, ∀ z ∈ r, z ∈ M := by
  unfold rowsP
  have key : ∀ (gs : List Pol) (rows : List Pol), (∀ r ∈ rows, ∀ z ∈ r, z ∈ M) → (∀ g ∈ gs, ∀ z ∈ g, z ∈ M) → ∀ r ∈ gs.foldl addR rows, ∀ z ∈ r, z ∈ M := by
    intro gs
    induction gs with
    | nil => exact fun rows h _ => h
    | cons g gs ih => exact fun rows hr hg => ih _ (addR_sub hr (hg g (by simp))) fun g' hg' => hg g' (List.mem_cons_of_mem _ hg')
  exact key gs [] (fun r hr => by cases hr) h
def hitR (k d : Nat) : List Pol := rowsP (gensTo k d (hitJ d))
/-- what NormalForm answers -/
def nrmO (v : Int) (f : Pol) : Int × Pol × Int :=
  if polB v f = true then (if f.length = 0 then (v, [], 0) else if 100 < (mons (v.toNat - 1) (degL f).toNat).length then (0, [], 3) else (v, redT (hitR (v.toNat - 1) (degL f).toNat) f, 0)) else (0, [], 1)
theorem nrmO_bad {v : Int} {f : Pol} (h : polB v f = false) : nrmO v f = (0, [], 1) := by unfold nrmO; rw [if_neg (by rw [h]; simp)]
theorem nrmO_void {v : Int} {f : Pol} (h : polB v f = true) (h0 : f.length = 0) : nrmO v f = (v, [], 0) := by unfold nrmO; rw [if_pos h, if_pos h0]
theorem nrmO_lim {v : Int} {f : Pol} {k d : Nat} (h : polB v f = true) (h0 : 0 < f.length) (hv : v = ((k + 1 : Nat) : Int)) (hd : degL f = d) (h1 : 100 < (mons k d).length) : nrmO v f = (0, [], 3) := by
  unfold nrmO
  rw [if_pos h, if_neg (by omega), hv, hd, Int.toNat_natCast, Int.toNat_natCast, Nat.add_sub_cancel, if_pos h1]
theorem nrmO_ok {v : Int} {f : Pol} {k d : Nat} (h : polB v f = true) (h0 : 0 < f.length) (hv : v = ((k + 1 : Nat) : Int)) (hd : degL f = d) (h1 : ¬ 100 < (mons k d).length) : nrmO v f = (v, redT (hitR k d) f, 0) := by
  unfold nrmO
  rw [if_pos h, if_neg (by omega), hd, hv, Int.toNat_natCast, Int.toNat_natCast, Nat.add_sub_cancel, if_neg h1]
end Go.Proofs.YtoodhbafleemjaaGreat
