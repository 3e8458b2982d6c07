/- Plain: Kameko's map down and squares. -/
import Derived.Test.YtoodhbafleemjaaGreatHitP
import Derived.Test.YtoodhbafleemjaaGreatPar
import Derived.Test.YtoodhbafleemjaaGreatKam
import Derived.Test.YtoodhbafleemjaaGreatHitC
namespace Go.Proofs.YtoodhbafleemjaaGreat
set_option linter.unusedVariables false

/-- all exponents odd -/
def oddX (x : List Int) : Bool := x.all fun n => n % 2 == 1
def dnW (x : List Int) : List Int := x.map (· / 2)
def kd (P : List (List Int)) : List (List Int) := (P.filter oddX).map dnW
theorem kd_nil : kd [] = [] := rfl
theorem kd_app (P Q : List (List Int)) : kd (P ++ Q) = kd P ++ kd Q := by unfold kd; rw [List.filter_append, List.map_append]
theorem kd_flat {α : Type} (f : α → List (List Int)) : ∀ L : List α, kd (L.flatMap f) = L.flatMap fun a => kd (f a)
  | [] => rfl
  | a :: L => by rw [List.flatMap_cons, kd_app, kd_flat f L, List.flatMap_cons]
theorem kd_cons (n : Int) : ∀ P : List (List Int), kd (P.map (n :: ·)) = if n % 2 = 1 then (kd P).map ((n / 2) :: ·) else []
  | [] => by simp [kd]
  | x :: P => by
    have ih := kd_cons n P
    unfold kd at ih ⊢
    rw [List.map_cons, List.filter_cons, List.filter_cons]
    by_cases h : n % 2 = 1
    · rw [if_pos h] at ih ⊢
      have e : oddX (n :: x) = oddX x := by unfold oddX; rw [List.all_cons]; simp [h]
      rw [e]
      by_cases hx : oddX x = true
      · rw [if_pos hx, if_pos hx, List.map_cons, ih, List.map_cons, List.map_cons]; rfl
      · rw [if_neg hx, if_neg hx, ih]
    · rw [if_neg h] at ih ⊢
      have e : oddX (n :: x) = false := by unfold oddX; rw [List.all_cons]; simp [h]
      rw [e]
      simpa using ih
theorem flat_even {F : Nat → List (List Int)} (h : ∀ j, F (2 * j + 1) = []) : ∀ N : Nat, (List.range (2 * N + 1)).flatMap F = (List.range (N + 1)).flatMap fun j => F (2 * j)
  | 0 => by simp
  | N + 1 => by
    rw [show 2 * (N + 1) + 1 = 2 * N + 1 + 1 + 1 from by omega, List.range_succ, List.range_succ, List.flatMap_append, List.flatMap_append, flat_even h N, List.range_succ (n := N + 1), List.flatMap_append]
    simp [h, show 2 * (N + 1) = 2 * N + 2 from by omega]
theorem flat_odd {F : Nat → List (List Int)} (h : ∀ j, F (2 * j + 1) = []) (N : Nat) : (List.range (2 * N + 2)).flatMap F = (List.range (N + 1)).flatMap fun j => F (2 * j) := by
  rw [show 2 * N + 2 = 2 * N + 1 + 1 from by omega, List.range_succ, List.flatMap_append, flat_even h N]
  simp [h]
theorem flat_half {F : Nat → List (List Int)} (h : ∀ j, F (2 * j + 1) = []) (N : Nat) : (List.range (N + 1)).flatMap F = (List.range (N / 2 + 1)).flatMap fun j => F (2 * j) := by
  rcases Nat.mod_two_eq_zero_or_one N with e | e
  · have : N = 2 * (N / 2) := by omega
    rw [this, flat_even h, show 2 * (N / 2) / 2 = N / 2 from by omega]
  · have : N = 2 * (N / 2) + 1 := by omega
    rw [this, flat_odd h, show (2 * (N / 2) + 1) / 2 = N / 2 from by omega]
theorem and_half (m j : Nat) : (2 * m + 1) &&& (2 * j) = 2 * (m &&& j) := by
  apply Nat.eq_of_testBit_eq
  intro i
  cases i with
  | zero => simp
  | succ i =>
    rw [Nat.testBit_and, Nat.testBit_succ, Nat.testBit_succ, Nat.testBit_succ, show (2 * m + 1) / 2 = m from by omega, show 2 * j / 2 = j from by omega, show 2 * (m &&& j) / 2 = m &&& j from by omega, Nat.testBit_and]
theorem and_even {n j : Nat} (h : n % 2 = 0) (hj : n &&& j = j) : j % 2 = 0 := by
  have h1 : (n &&& j).testBit 0 = j.testBit 0 := by rw [hj]
  rw [Nat.testBit_and] at h1
  have h2 : n.testBit 0 = false := by rw [Nat.testBit_zero, h]; rfl
  rw [h2, Bool.false_and, Nat.testBit_zero] at h1
  have := of_decide_eq_false h1.symm
  omega
/-- Kameko's map down of a square of a monomial -/
theorem kd_sqW : ∀ (x : List Int) (i : Int), (∀ a ∈ x, (0 : Int) ≤ a) → 0 ≤ i → kd (sqW x i) = if i % 2 = 0 ∧ oddX x = true then sqW (dnW x) (i / 2) else []
  | [], i, _, hi => by
    by_cases h0 : i = 0
    · subst h0; simp [sqW, kd, oddX, dnW]
    · have e1 : sqW [] i = [] := by simp [sqW, h0]
      rw [e1, kd_nil]
      split
      · rename_i h
        have : i / 2 ≠ 0 := by have := h.1; omega
        simp [sqW, dnW, this]
      · rfl
  | n :: t, i, hx, hi => by
    have hn : 0 ≤ n := hx n (by simp)
    have ht : ∀ a ∈ t, (0 : Int) ≤ a := fun a ha => hx a (List.mem_cons_of_mem _ ha)
    have ih := fun (j : Nat) (hj : (j : Int) ≤ i) => kd_sqW t (i - j) ht (by omega)
    obtain ⟨N, rfl⟩ : ∃ N : Nat, n = (N : Int) := ⟨n.toNat, by omega⟩
    obtain ⟨I, rfl⟩ : ∃ I : Nat, i = (I : Int) := ⟨i.toNat, by omega⟩
    rw [sqW, kd_flat]
    have hr : (min (N : Int) (I : Int) + 1).toNat = min N I + 1 := by omega
    rw [hr]
    -- the summand
    have hF : ∀ j : Nat, j ≤ min N I → kd (if (N : Int).toNat &&& j = j then (sqW t ((I : Int) - j)).map (((N : Int) + j) :: ·) else []) = if N &&& j = j ∧ (N + j) % 2 = 1 then (kd (sqW t ((I : Int) - j))).map (((((N + j) / 2 : Nat)) : Int) :: ·) else [] := fun j hj => by
      rw [Int.toNat_natCast]
      by_cases h1 : N &&& j = j
      · rw [if_pos h1, kd_cons]
        by_cases h2 : (N + j) % 2 = 1
        · rw [if_pos (by omega), if_pos ⟨h1, h2⟩]
          rw [show ((N : Int) + j) / 2 = (((N + j) / 2 : Nat) : Int) from by omega]
        · rw [if_neg (by omega), if_neg (fun h => h2 h.2)]
      · rw [if_neg h1, if_neg (fun h => h1 h.1), kd_nil]
    have hcg : ∀ (M : Nat) (F G : Nat → List (List Int)), (∀ j, j < M → F j = G j) → (List.range M).flatMap F = (List.range M).flatMap G := fun M F G h => by
      induction M with
      | zero => rfl
      | succ M ih => rw [List.range_succ, List.flatMap_append, List.flatMap_append, ih fun j hj => h j (by omega)]; simp [h M (by omega)]
    rw [hcg _ _ _ fun j hj => hF j (by omega)]
    by_cases hNo : N % 2 = 1
    · -- odd exponent: only even j
      obtain ⟨m, rfl⟩ : ∃ m, N = 2 * m + 1 := ⟨N / 2, by omega⟩
      rw [flat_half (fun j => by rw [if_neg]; rintro ⟨_, h⟩; omega)]
      by_cases hc : (I : Int) % 2 = 0 ∧ oddX t = true
      · obtain ⟨k, rfl⟩ : ∃ k, I = 2 * k := ⟨I / 2, by omega⟩
        rw [if_pos ⟨hc.1, by unfold oddX at hc ⊢; rw [List.all_cons]; simp [hc.2]⟩]
        rw [dnW, List.map_cons, sqW]
        have e1 : min (2 * m + 1) (2 * k) / 2 + 1 = (min (((2 * m + 1 : Nat) : Int) / 2) (((2 * k : Nat) : Int) / 2) + 1).toNat := by omega
        rw [e1]
        refine hcg _ _ _ fun j hj => ?_
        have hjk : j ≤ m ∧ j ≤ k := by omega
        rw [ih (2 * j) (by omega)]
        have e2 : (((2 * m + 1 : Nat) : Int) / 2).toNat = m := by omega
        rw [e2, and_half, if_pos (⟨by omega, hc.2⟩ : (((2 * k : Nat) : Int) - ((2 * j : Nat) : Int)) % 2 = 0 ∧ oddX t = true)]
        by_cases h3 : m &&& j = j
        · rw [h3, if_pos ⟨rfl, by omega⟩, if_pos rfl]
          have e3 : (((2 * k : Nat) : Int) - ((2 * j : Nat) : Int)) / 2 = ((2 * k : Nat) : Int) / 2 - (j : Int) := by omega
          have e4 : (((2 * m + 1 + 2 * j) / 2 : Nat) : Int) = ((2 * m + 1 : Nat) : Int) / 2 + (j : Int) := by omega
          rw [e3, e4]
          rfl
        · rw [if_neg (fun h => h3 (by have := h.1; omega)), if_neg h3]
      · have hc2 : ¬ ((I : Int) % 2 = 0 ∧ oddX (((2 * m + 1 : Nat) : Int) :: t) = true) := fun h => hc ⟨h.1, by have := h.2; unfold oddX at this ⊢; rw [List.all_cons] at this; exact (Bool.and_eq_true_iff.1 this).2⟩
        rw [if_neg hc2]
        have key : ∀ M : Nat, (∀ j, j < M → 2 * j ≤ I) → (List.range M).flatMap (fun j => if (2 * m + 1) &&& (2 * j) = 2 * j ∧ (2 * m + 1 + 2 * j) % 2 = 1 then (kd (sqW t ((I : Int) - ((2 * j : Nat) : Int)))).map ((((2 * m + 1 + 2 * j) / 2 : Nat) : Int) :: ·) else []) = [] := by
          intro M hM
          induction M with
          | zero => rfl
          | succ M ihM =>
            rw [List.range_succ, List.flatMap_append, ihM fun j hj => hM j (by omega)]
            have := hM M (by omega)
            simp only [List.flatMap_cons, List.flatMap_nil, List.append_nil, List.nil_append]
            rw [ih (2 * M) (by omega), if_neg (c := ((I : Int) - ((2 * M : Nat) : Int)) % 2 = 0 ∧ oddX t = true) (fun h => hc ⟨by have := h.1; omega, h.2⟩)]
            simp
        exact key _ fun j hj => by omega
    · -- even exponent: nothing is odd
      have hc2 : ¬ ((I : Int) % 2 = 0 ∧ oddX ((N : Int) :: t) = true) := fun h => by
        have := h.2
        unfold oddX at this
        rw [List.all_cons, Bool.and_eq_true] at this
        have := this.1
        simp at this
        omega
      rw [if_neg hc2]
      have key : ∀ M : Nat, (List.range M).flatMap (fun j => if N &&& j = j ∧ (N + j) % 2 = 1 then (kd (sqW t ((I : Int) - (j : Int)))).map ((((N + j) / 2 : Nat) : Int) :: ·) else []) = [] := by
        intro M
        induction M with
        | zero => rfl
        | succ M ihM =>
          rw [List.range_succ, List.flatMap_append, ihM]
          simp only [List.flatMap_cons, List.flatMap_nil, List.append_nil, List.nil_append]
          rw [if_neg]
          rintro ⟨h1, h2⟩
          have := and_even (n := N) (by omega) h1
          omega
      exact key _
/-! ### sums of monomials -/
theorem dn_up (z : List Int) : dnW (upW z) = z := by
  unfold dnW upW
  rw [List.map_map]
  conv => rhs; rw [← List.map_id z]
  refine List.map_congr_left fun n _ => ?_
  show (2 * n + 1) / 2 = n
  omega
theorem odd_up (z : List Int) : oddX (upW z) = true := by
  unfold oddX upW
  rw [List.all_map, List.all_eq_true]
  intro n _
  simp
theorem up_dn : ∀ {x : List Int}, oddX x = true → upW (dnW x) = x
  | [], _ => rfl
  | n :: x, h => by
    unfold oddX at h
    rw [List.all_cons, Bool.and_eq_true] at h
    have h1 : n % 2 = 1 := by simpa using h.1
    have h2 := up_dn (x := x) h.2
    unfold upW dnW at h2 ⊢
    rw [List.map_cons, List.map_cons, h2]
    congr 1
    omega
theorem kd_count (z : List Int) : ∀ P : List (List Int), (kd P).count z = P.count (upW z)
  | [] => rfl
  | x :: P => by
    have ih := kd_count z P
    unfold kd at ih ⊢
    rw [List.filter_cons, List.count_cons]
    by_cases hx : oddX x = true
    · rw [if_pos hx, List.map_cons, List.count_cons, ih]
      congr 1
      by_cases e : dnW x = z
      · subst e
        rw [up_dn hx]; simp
      · have e2 : ¬ x = upW z := fun h => e (by rw [h, dn_up])
        simp [e, e2]
    · rw [if_neg hx, ih]
      have e2 : ¬ x = upW z := fun h => hx (by rw [h, odd_up])
      simp [e2]
theorem kd_same {P Q : List (List Int)} (h : SameSum P Q) : SameSum (kd P) (kd Q) := fun z => by rw [kd_count, kd_count]; exact h _
theorem kd_asc : ∀ {P : List (List Int)}, Asc P → Asc (kd P) := fun {P} h => by
  unfold kd Asc
  rw [List.pairwise_map]
  have h1 : (P.filter oddX).Pairwise fun x y => ltL x y = true := List.Pairwise.filter _ h
  refine List.Pairwise.imp_of_mem (fun {x y} hx hy hxy => ?_) h1
  have := upW_lt (dnW x) (dnW y)
  rw [up_dn (List.mem_filter.1 hx).2, up_dn (List.mem_filter.1 hy).2] at this
  rw [← this]; exact hxy
theorem kd_odd (P : List (List Int)) : kd (oddL P) = oddL (kd P) := asc_same (kd_asc (oddL_asc P)) (oddL_asc _) ((kd_same (oddL_same P)).trans (oddL_same _).symm)
theorem kd_up (P : List (List Int)) : kd (P.map upW) = P := by
  induction P with
  | nil => rfl
  | cons x P ih =>
    unfold kd at ih ⊢
    rw [List.map_cons, List.filter_cons, if_pos (odd_up x), List.map_cons, ih, dn_up]
theorem kd_mem {P : List (List Int)} {z : List Int} : z ∈ kd P ↔ upW z ∈ P := by
  unfold kd
  rw [List.mem_map]
  constructor
  · rintro ⟨x, hx, rfl⟩
    rw [up_dn (List.mem_filter.1 hx).2]
    exact (List.mem_filter.1 hx).1
  · intro h
    exact ⟨upW z, List.mem_filter.2 ⟨h, odd_up z⟩, dn_up z⟩
theorem kd_sqP {P : List (List Int)} {i : Int} (h : ∀ x ∈ P, ∀ a ∈ x, (0 : Int) ≤ a) (hi : 0 ≤ i) : kd (sqP P i) = if i % 2 = 0 then sqP (kd P) (i / 2) else [] := by
  unfold sqP
  rw [kd_flat]
  induction P with
  | nil => simp [kd]
  | cons x P ih =>
    rw [List.flatMap_cons, ih fun y hy => h y (List.mem_cons_of_mem _ hy), kd_sqW x i (h x (by simp)) hi]
    by_cases he : i % 2 = 0
    · rw [if_pos he, if_pos he]
      have e : kd (x :: P) = (if oddX x = true then [dnW x] else []) ++ kd P := by
        unfold kd
        rw [List.filter_cons]
        split <;> simp
      rw [e, List.flatMap_append]
      by_cases hx : oddX x = true
      · rw [if_pos ⟨he, hx⟩, if_pos hx]; simp
      · rw [if_neg (fun h => hx h.2), if_neg hx]; simp
    · rw [if_neg (fun h => he h.1), if_neg he, if_neg he]; rfl
end Go.Proofs.YtoodhbafleemjaaGreat

/- Plain: hit polynomials are spans; Kameko's map down leads hit polynomials to hit ones. -/
namespace Go.Proofs.YtoodhbafleemjaaGreat
set_option linter.unusedVariables false

/-- t is a sum of some of the polynomials gs -/
def InS (gs : List Pol) (t : Pol) : Prop := ∃ L : List Pol, (∀ g ∈ L, g ∈ gs) ∧ SameSum t L.flatten
theorem InS.same {gs : List Pol} {s t : Pol} (h : InS gs s) (e : SameSum t s) : InS gs t := by
  obtain ⟨L, h1, h2⟩ := h
  exact ⟨L, h1, e.trans h2⟩
theorem InS.zero (gs : List Pol) : InS gs [] := ⟨[], fun g hg => (by cases hg), SameSum.refl _⟩
theorem InS.mem {gs : List Pol} {g : Pol} (h : g ∈ gs) : InS gs g := ⟨[g], fun x hx => by rw [List.mem_singleton.1 hx]; exact h, by simpa using SameSum.refl g⟩
theorem InS.add {gs : List Pol} {s t : Pol} (h : InS gs s) (k : InS gs t) : InS gs (s ++ t) := by
  obtain ⟨L, h1, h2⟩ := h
  obtain ⟨M, k1, k2⟩ := k
  refine ⟨L ++ M, fun g hg => (List.mem_append.1 hg).elim (h1 g) (k1 g), ?_⟩
  rw [List.flatten_append]
  exact h2.append k2
theorem InS.of_gen {gs hs : List Pol} {t : Pol} (h : ∀ g ∈ gs, InS hs g) (ht : InS gs t) : InS hs t := by
  obtain ⟨L, h1, h2⟩ := ht
  refine InS.same ?_ h2
  clear h2
  induction L with
  | nil => exact InS.zero hs
  | cons g L ih => rw [List.flatten_cons]; exact (h g (h1 g (by simp))).add (ih fun x hx => h1 x (List.mem_cons_of_mem _ hx))
theorem InS.mono {gs hs : List Pol} {t : Pol} (h : ∀ g ∈ gs, g ∈ hs) (ht : InS gs t) : InS hs t := InS.of_gen (fun g hg => InS.mem (h g hg)) ht
theorem same_swap (a b c : Pol) : SameSum (a ++ b ++ c) (a ++ c ++ b) := fun z => by simp only [List.count_append]; omega
theorem same_two (a b : Pol) : SameSum (a ++ b ++ b) a := fun z => by simp only [List.count_append]; omega
theorem InS.cons {g : Pol} {gs : List Pol} {t : Pol} : InS (g :: gs) t ↔ InS gs t ∨ InS gs (t ++ g) := by
  constructor
  · rintro ⟨L, h1, h2⟩
    induction L generalizing t with
    | nil => exact .inl ⟨[], fun g hg => (by cases hg), h2⟩
    | cons x L ih =>
      have hx := h1 x (by simp)
      have hL : ∀ y ∈ L, y ∈ g :: gs := fun y hy => h1 y (List.mem_cons_of_mem _ hy)
      have h3 : SameSum (t ++ x) L.flatten := fun z => by
        have := h2 z
        rw [List.flatten_cons, List.count_append] at this
        rw [List.count_append]; omega
      rcases List.mem_cons.1 hx with rfl | hx
      · rcases ih hL h3 with h4 | h4
        · exact .inr h4
        · exact .inl (h4.same (same_two t x).symm)
      · rcases ih hL h3 with h4 | h4
        · exact .inl ((h4.add (InS.mem hx)).same (same_two t x).symm)
        · refine .inr ((h4.add (InS.mem hx)).same fun z => ?_)
          simp only [List.count_append]; omega
  · rintro (h | h)
    · exact h.mono fun x hx => List.mem_cons_of_mem _ hx
    · exact ((h.mono fun x hx => List.mem_cons_of_mem _ hx).add (InS.mem (by simp))).same (same_two t g).symm
theorem InS.bit {gs : List Pol} {t : Pol} {z : List Int} (h : ∀ g ∈ gs, z ∉ g) (ht : InS gs t) : t.count z % 2 = 0 := by
  obtain ⟨L, h1, h2⟩ := ht
  rw [h2 z]
  have : z ∉ L.flatten := fun hz => by
    obtain ⟨g, hg, hz⟩ := List.mem_flatten.1 hz
    exact h g (h1 g hg) hz
  rw [List.count_eq_zero.2 this]
/-- reducing by rows finds what they make -/
theorem redT_in : ∀ {rows : List Pol} {t : Pol}, RowsOk rows → Asc t → (redT rows t = [] ↔ InS rows t)
  | [], t, h, ht => by
    constructor
    · intro e
      have e : t = [] := e
      rw [e]; exact InS.zero _
    · intro e
      show t = []
      obtain ⟨L, h1, h2⟩ := e
      have : L = [] := by
        cases L with
        | nil => rfl
        | cons g L => have := h1 g (by simp); cases this
      subst this
      exact asc_same ht .nil h2
  | r :: rs, t, h, ht => by
    have h1 := h.each r (by simp)
    have hd := List.pairwise_cons.1 h.desc
    have hk : RowsOk rs := ⟨fun r hr => h.each r (List.mem_cons_of_mem _ hr), hd.2⟩
    have hno : ∀ q ∈ rs, lastL r ∉ q := fun q hq hz => below_key (hk.each q hq).1 (hd.1 q hq) _ hz rfl
    have hone : r.count (lastL r) = 1 := by rw [asc_count h1.1, if_pos (lastL_mem h1.2)]
    show redT rs (if lastL r ∈ t then oddL (t ++ r) else t) = [] ↔ _
    rw [InS.cons]
    by_cases hm : lastL r ∈ t
    · rw [if_pos hm, redT_in hk (oddL_asc _)]
      constructor
      · intro h2
        exact .inr (h2.same (oddL_same _).symm)
      · rintro (h2 | h2)
        · have := InS.bit hno h2
          rw [asc_count ht, if_pos hm] at this
          omega
        · exact h2.same (oddL_same _)
    · rw [if_neg hm, redT_in hk ht]
      constructor
      · exact .inl
      · rintro (h2 | h2)
        · exact h2
        · have := InS.bit hno h2
          rw [List.count_append, hone, asc_count ht, if_neg hm] at this
          omega
theorem redT_sum : ∀ (rows : List Pol) (t : Pol), InS rows (t ++ redT rows t)
  | [], t => (InS.zero []).same fun z => by show (t ++ t).count z % 2 = _; rw [List.count_append]; simp; omega
  | r :: rs, t => by
    show InS (r :: rs) (t ++ redT rs (if lastL r ∈ t then oddL (t ++ r) else t))
    rw [InS.cons]
    split
    · right
      have h2 := redT_sum rs (oddL (t ++ r))
      refine h2.same fun z => ?_
      have := oddL_same (t ++ r) z
      simp only [List.count_append] at *
      omega
    · exact .inl (redT_sum rs t)
theorem addR_in {rows : List Pol} {g : Pol} (h : RowsOk rows) (hg : Asc g) (t : Pol) : InS (addR rows g) t ↔ InS (rows ++ [g]) t := by
  have hs := redT_sum rows g
  unfold addR
  split
  · rename_i e
    rw [e, List.append_nil] at hs
    constructor
    · exact InS.mono fun x hx => List.mem_append_left _ hx
    · refine InS.of_gen fun x hx => ?_
      rcases List.mem_append.1 hx with hx | hx
      · exact InS.mem hx
      · rw [List.mem_singleton.1 hx]; exact hs
  · constructor
    · refine InS.of_gen fun x hx => ?_
      rcases putR_mem.1 hx with rfl | hx
      · have h1 : InS (rows ++ [g]) (g ++ (g ++ redT rows g)) := (InS.mem (by simp)).add (hs.mono fun x hx => List.mem_append_left _ hx)
        exact h1.same fun z => by simp only [List.count_append]; omega
      · exact InS.mem (List.mem_append_left _ hx)
    · refine InS.of_gen fun x hx => ?_
      rcases List.mem_append.1 hx with hx | hx
      · exact InS.mem (putR_mem.2 (.inr hx))
      · rw [List.mem_singleton.1 hx]
        have h1 : InS (putR (redT rows g) rows) (redT rows g ++ (g ++ redT rows g)) := (InS.mem (putR_mem.2 (.inl rfl))).add (hs.mono fun x hx => putR_mem.2 (.inr hx))
        exact h1.same fun z => by simp only [List.count_append]; omega
theorem rowsP_in (gs : List Pol) (h : ∀ g ∈ gs, Asc g) (t : Pol) : InS (rowsP gs) t ↔ InS gs t := by
  have key : ∀ L : List Pol, (∀ g ∈ L, Asc g) → ∀ t, InS (rowsP L.reverse) t ↔ InS L.reverse t := by
    intro L
    induction L with
    | nil => intro _ t; exact Iff.rfl
    | cons x L ih =>
      intro hL t
      have h1 : ∀ g ∈ L, Asc g := fun g hg => hL g (List.mem_cons_of_mem _ hg)
      rw [List.reverse_cons, rowsP_snoc, addR_in (rowsP_ok _ fun g hg => h1 g (List.mem_reverse.1 hg)) (hL x (by simp))]
      constructor
      · refine InS.of_gen fun y hy => ?_
        rcases List.mem_append.1 hy with hy | hy
        · exact ((ih h1 y).1 (InS.mem hy)).mono fun z hz => List.mem_append_left _ hz
        · exact InS.mem (List.mem_append_right _ hy)
      · refine InS.of_gen fun y hy => ?_
        rcases List.mem_append.1 hy with hy | hy
        · exact ((ih h1 y).2 (InS.mem hy)).mono fun z hz => List.mem_append_left _ hz
        · exact InS.mem (List.mem_append_right _ hy)
  have := key gs.reverse (fun g hg => h g (List.mem_reverse.1 hg)) t
  rwa [List.reverse_reverse] at this
theorem kd_flatten : ∀ L : List Pol, kd L.flatten = (L.map kd).flatten
  | [] => rfl
  | x :: L => by rw [List.flatten_cons, kd_app, kd_flatten L, List.map_cons, List.flatten_cons]
theorem InS.kd {gs : List Pol} {t : Pol} (h : InS gs t) : InS (gs.map kd) (kd t) := by
  obtain ⟨L, h1, h2⟩ := h
  refine ⟨L.map Proofs.YtoodhbafleemjaaGreat.kd, fun g hg => ?_, ?_⟩
  · obtain ⟨x, hx, rfl⟩ := List.mem_map.1 hg
    exact List.mem_map.2 ⟨x, h1 x hx, rfl⟩
  · rw [← kd_flatten]; exact kd_same h2
theorem upW_sum : ∀ y : List Int, (upW y).sum = 2 * y.sum + y.length
  | [] => rfl
  | n :: y => by
    have ih := upW_sum y
    unfold upW at ih ⊢
    rw [List.map_cons, List.sum_cons, ih, List.sum_cons, List.length_cons]
    omega
theorem dnW_pos {x : List Int} (h : ∀ a ∈ x, (0 : Int) ≤ a) : ∀ a ∈ dnW x, (0 : Int) ≤ a := fun a ha => by
  obtain ⟨n, hn, rfl⟩ := List.mem_map.1 ha
  have := h n hn
  show 0 ≤ n / 2
  omega
theorem hitJ_lt {j d : Nat} (h : 2 ^ j ≤ d) : j < hitJ d := by
  have h0 : d ≠ 0 := fun e => by subst e; have := Nat.two_pow_pos j; omega
  unfold hitJ
  rw [if_neg h0]
  have := (Nat.le_log2 h0).2 h
  omega
theorem hitJ_le {j d : Nat} (h : j < hitJ d) : 2 ^ j ≤ d := by
  unfold hitJ at h
  split at h
  · omega
  · rename_i h0
    exact (Nat.le_log2 h0).1 (by omega)
theorem gens_kd {k d d' J : Nat} (hd : d = 2 * d' + (k + 1)) (hJ : ∀ j, j < J → 2 ^ j ≤ d) : ∀ g ∈ gensTo k d J, InS (gensTo k d' (hitJ d')) (kd g) := by
  intro g hg
  obtain ⟨j, hj, hg⟩ := List.mem_flatMap.1 hg
  have hj := hJ j (List.mem_range.1 hj)
  obtain ⟨x, hx, rfl⟩ := List.mem_map.1 hg
  obtain ⟨x0, x1, x2⟩ := (mons_mem k _ x).1 hx
  rw [kd_odd, kd_sqP (fun y hy => by rw [List.mem_singleton.1 hy]; exact x0) (Int.natCast_nonneg _)]
  cases j with
  | zero => rw [if_neg (by decide)]; exact InS.zero _
  | succ j =>
    have e1 : ((2 ^ (j + 1) : Nat) : Int) = 2 * ((2 ^ j : Nat) : Int) := by rw [Nat.pow_succ]; omega
    rw [e1, if_pos (by omega), show (2 * ((2 ^ j : Nat) : Int)) / 2 = ((2 ^ j : Nat) : Int) from by omega]
    by_cases ho : oddX x = true
    · have e2 : kd [x] = [dnW x] := by unfold kd; rw [List.filter_cons, if_pos ho]; rfl
      rw [e2]
      have hs := upW_sum (dnW x)
      rw [up_dn ho, x1] at hs
      have hl : (dnW x).length = k + 1 := by unfold dnW; rw [List.length_map]; exact x2
      have h0 := dnW_pos x0
      have hs0 : 0 ≤ (dnW x).sum := by
        have : ∀ y : List Int, (∀ a ∈ y, (0 : Int) ≤ a) → 0 ≤ y.sum := by
          intro y
          induction y with
          | nil => intro _; simp
          | cons n y ih => intro h; rw [List.sum_cons]; have := h n (by simp); have := ih fun a ha => h a (List.mem_cons_of_mem _ ha); omega
        exact this _ h0
      rw [hl] at hs
      rw [Nat.pow_succ] at hj hs
      generalize hp : 2 ^ j = p at hj hs
      have hle : p ≤ d' := by omega
      have hsum : (dnW x).sum = ((d' - p : Nat) : Int) := by omega
      refine InS.mem (List.mem_flatMap.2 ⟨j, List.mem_range.2 (hitJ_lt (by rw [hp]; exact hle)), List.mem_map.2 ⟨dnW x, ?_, by rw [hp]⟩⟩)
      rw [hp]
      exact (mons_mem k _ _).2 ⟨h0, hsum, hl⟩
    · have e2 : kd [x] = [] := by unfold kd; rw [List.filter_cons, if_neg ho]; rfl
      rw [e2]
      exact InS.zero _
theorem gens_asc {k d J : Nat} : ∀ g ∈ gensTo k d J, Asc g := by
  intro g hg
  obtain ⟨j, _, hg⟩ := List.mem_flatMap.1 hg
  obtain ⟨x, _, rfl⟩ := List.mem_map.1 hg
  exact oddL_asc _
/-- a polynomial is hit exactly if it lies in the span of the generators -/
theorem hit_in {k d : Nat} {f : Pol} (hf : Asc f) : redT (hitR k d) f = [] ↔ InS (gensTo k d (hitJ d)) f := by
  unfold hitR
  rw [redT_in (rowsP_ok _ gens_asc) hf, rowsP_in _ gens_asc]
/-- Kameko's map down leads hit polynomials to hit ones -/
theorem hit_kd {k d d' : Nat} {f : Pol} (hf : Asc f) (hd : d = 2 * d' + (k + 1)) (h : redT (hitR k d) f = []) : redT (hitR k d') (kd f) = [] := by
  rw [hit_in hf] at h
  rw [hit_in (kd_asc hf)]
  refine InS.of_gen (fun g hg => ?_) h.kd
  obtain ⟨x, hx, rfl⟩ := List.mem_map.1 hg
  exact gens_kd hd (fun j hj => hitJ_le hj) x hx
end Go.Proofs.YtoodhbafleemjaaGreat

/- Plain: Kameko's maps lead polynomials to polynomials. -/
namespace Go.Proofs.YtoodhbafleemjaaGreat
open Go.RowKit
set_option linter.unusedVariables false

theorem polB_of {v : Int} {f : Pol} (h : PolF v f) : polB v f = true := by
  have hm : ∀ x ∈ f, psT 0 x = x.sum := fun x hx => by
    obtain ⟨a, b, c, d⟩ := h.each x hx
    have := h.hi
    have h1 := psT_bd x 0 (by omega) (by omega) b
    omega
  simp only [polB, Bool.and_eq_true, decide_eq_true_eq, List.all_eq_true]
  refine ⟨⟨⟨⟨inB_iff.2 ⟨h.lo, h.hi⟩, h.len⟩, fun x hx => ?_⟩, asc_risB.2 h.asc⟩, ?_⟩
  · obtain ⟨a, b, c, d⟩ := h.each x hx
    simp only [monB, degsB, Bool.and_eq_true, decide_eq_true_eq, List.all_eq_true]
    exact ⟨⟨a, fun z hz => inB_iff.2 (b z hz)⟩, by rw [hm x hx]; exact c⟩
  · simp only [sameB, List.all_eq_true, decide_eq_true_eq]
    intro x hx
    cases f with
    | nil => cases hx
    | cons y ys =>
      have := h.same x hx
      rw [List.headD_cons] at this ⊢
      rw [hm x hx, hm y (by simp), this]
theorem headD_mem {f : Pol} (h : f ≠ []) : f.headD [] ∈ f := by
  cases f with
  | nil => exact absurd rfl h
  | cons y ys => simp
theorem kd_deg {v : Int} {f : Pol} (h : PolF v f) {x : List Int} (hx : x ∈ kd f) : degL f = 2 * x.sum + v ∧ (x.length : Int) = v ∧ (∀ z ∈ x, 0 ≤ z ∧ z ≤ 19) := by
  have hu := kd_mem.1 hx
  obtain ⟨a, b, c, d⟩ := h.each _ hu
  have hs := h.same _ hu
  rw [upW_sum] at hs
  have hl : (upW x).length = x.length := by unfold upW; rw [List.length_map]
  rw [hl] at a
  refine ⟨by rw [h.deg.1, ← hs, a], a, fun z hz => ?_⟩
  have := b (2 * z + 1) (List.mem_map.2 ⟨z, hz, rfl⟩)
  omega
theorem sum_pos : ∀ {x : List Int}, (∀ z ∈ x, 0 ≤ z) → 0 ≤ x.sum
  | [], _ => by simp
  | n :: x, h => by
    rw [List.sum_cons]
    have := h n (by simp)
    have := sum_pos fun a ha => h a (List.mem_cons_of_mem _ ha)
    omega
theorem kd_polF {v : Int} {f : Pol} (h : PolF v f) : PolF v (kd f) := by
  have hd := h.deg
  refine ⟨h.lo, h.hi, ?_, fun x hx => ?_, kd_asc h.asc, fun x hx => ?_⟩
  · unfold kd
    rw [List.length_map]
    exact Nat.le_trans (List.length_filter_le _ _) h.len
  · obtain ⟨a, b, c⟩ := kd_deg h hx
    have hp := sum_pos fun z hz => (c z hz).1
    have := h.lo
    exact ⟨b, fun z hz => by have := c z hz; omega, by omega, hp⟩
  · obtain ⟨a, _, _⟩ := kd_deg h hx
    obtain ⟨b, _, _⟩ := kd_deg h (headD_mem (f := kd f) (fun e => by rw [e] at hx; cases hx))
    omega
theorem kd_pol {v : Int} {f : Pol} (h : polB v f = true) : polB v (kd f) = true := polB_of (kd_polF (polF_of h))
/-- the degree of what Kameko's map down makes -/
theorem kd_degL {v : Int} {f : Pol} (h : PolF v f) (h0 : kd f ≠ []) : degL f = 2 * degL (kd f) + v := by
  have := kd_deg h (headD_mem h0)
  rw [(kd_polF h).deg.1]
  exact this.1
theorem up_polF {v : Int} {f : Pol} (h : PolF v f) (hd : f.length = 0 ∨ ¬ 40 < 2 * degL f + v) : PolF v (f.map upW) := by
  have hdeg := h.deg
  have hl : ∀ x : List Int, (upW x).length = x.length := fun x => by unfold upW; rw [List.length_map]
  have hsum : ∀ x ∈ f, (upW x).sum = 2 * degL f + v := fun x hx => by
    obtain ⟨a, b, c, d⟩ := h.each x hx
    rw [upW_sum, h.same x hx, a, hdeg.1]
  have hle : ∀ x ∈ f, 2 * degL f + v ≤ 40 := fun x hx => by
    rcases hd with hd | hd
    · rw [List.eq_nil_of_length_eq_zero hd] at hx; cases hx
    · omega
  refine ⟨h.lo, h.hi, by rw [List.length_map]; exact h.len, fun y hy => ?_, up_asc h.asc, fun y hy => ?_⟩
  · obtain ⟨x, hx, rfl⟩ := List.mem_map.1 hy
    obtain ⟨a, b, c, d⟩ := h.each x hx
    have h1 := hsum x hx
    have h2 := hle x hx
    refine ⟨by rw [hl]; exact a, fun z hz => ?_, by omega, by have := h.lo; omega⟩
    obtain ⟨n, hn, rfl⟩ := List.mem_map.1 hz
    have hn0 := b n hn
    have hns : n ≤ x.sum := sum_ge_mem (fun a ha => (b a ha).1) n hn
    have hxs := h.same x hx
    rw [← hdeg.1] at hxs
    have := h.lo
    omega
  · obtain ⟨x, hx, rfl⟩ := List.mem_map.1 hy
    rw [hsum x hx]
    cases f with
    | nil => cases hx
    | cons z zs => rw [List.map_cons, List.headD_cons]; exact (hsum z (by simp)).symm
theorem mons_mono (k : Nat) {d d' : Nat} (h : d' ≤ d) : (mons k d').length ≤ (mons k d).length := by
  cases k with
  | zero => simp [mons]
  | succ k =>
    induction h with
    | refl => exact Nat.le_refl _
    | step h ih => rw [Nat.succ_eq_add_one, mons_succ]; omega
/-- hit and taken by IsHit -/
def hitK (v : Int) (f : Pol) : Bool := decide ((nrmO v f).2.2 = 0) && decide ((nrmO v f).2.1.length = 0)
theorem hit_down {v : Int} {f : Pol} (h : polB v f = true) (hh : hitK v f = true) : hitK v (kd f) = true := by
  have hF := polF_of h
  have hK := kd_pol h
  have hlo := hF.lo
  obtain ⟨k, hk⟩ : ∃ k : Nat, v = ((k + 1 : Nat) : Int) := ⟨(v - 1).toNat, by omega⟩
  by_cases h0 : (kd f).length = 0
  · unfold hitK; rw [nrmO_void hK h0]; simp
  · have hne : kd f ≠ [] := fun e => h0 (by rw [e]; rfl)
    have hf0 : 0 < f.length := by
      rcases Nat.eq_zero_or_pos f.length with e | e
      · rw [List.eq_nil_of_length_eq_zero e] at h0; exact absurd rfl h0
      · exact e
    have hd1 := hF.deg
    have hd2 := (kd_polF hF).deg
    obtain ⟨d, hd⟩ : ∃ d : Nat, degL f = (d : Int) := ⟨(degL f).toNat, by omega⟩
    obtain ⟨d', hd'⟩ : ∃ d' : Nat, degL (kd f) = (d' : Int) := ⟨(degL (kd f)).toNat, by omega⟩
    have hdd := kd_degL hF hne
    have hdn : d = 2 * d' + (k + 1) := by omega
    unfold hitK at hh ⊢
    by_cases hM : 100 < (mons k d).length
    · rw [nrmO_lim h hf0 hk hd hM] at hh
      simp at hh
    · rw [nrmO_ok h hf0 hk hd hM] at hh
      have hM' : ¬ 100 < (mons k d').length := by have := mons_mono k (d := d) (d' := d') (by omega); omega
      rw [nrmO_ok hK (by omega) hk hd' hM']
      have h1 : redT (hitR k d) f = [] := by
        simp only [decide_true, Bool.true_and, decide_eq_true_eq] at hh
        exact List.eq_nil_of_length_eq_zero hh
      rw [hit_kd hF.asc hdn h1]
      simp
end Go.Proofs.YtoodhbafleemjaaGreat
