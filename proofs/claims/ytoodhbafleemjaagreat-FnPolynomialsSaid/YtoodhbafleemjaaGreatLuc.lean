/- Plain: binomial numbers modulo 2 (Lucas), Vandermonde. -/
import Derived.Test.YtoodhbafleemjaaGreatPar
namespace Go.Proofs.YtoodhbafleemjaaGreat
set_option linter.unusedVariables false

/-- whether the binomial number is odd -/
def lu (n a : Nat) : Bool := n &&& a == a
theorem and_dd (x y m b : Nat) (hx : x < 2) (hy : y < 2) : (2 * m + x) &&& (2 * b + y) = 2 * (m &&& b) + (x &&& y) := by
  apply Nat.eq_of_testBit_eq
  intro i
  have hxy : x &&& y < 2 := Nat.lt_of_le_of_lt Nat.and_le_left hx
  cases i with
  | zero =>
    rw [Nat.testBit_and, Nat.testBit_zero, Nat.testBit_zero, Nat.testBit_zero]
    have h1 : x = 0 ∨ x = 1 := by omega
    have h2 : y = 0 ∨ y = 1 := by omega
    rcases h1 with rfl | rfl <;> rcases h2 with rfl | rfl <;> simp [Nat.add_mod]
  | succ i =>
    rw [Nat.testBit_and, Nat.testBit_succ, Nat.testBit_succ, Nat.testBit_succ, show (2 * m + x) / 2 = m from by omega, show (2 * b + y) / 2 = b from by omega, show (2 * (m &&& b) + (x &&& y)) / 2 = m &&& b from by omega, Nat.testBit_and]
theorem lu_dd (x y m b : Nat) (hx : x < 2) (hy : y < 2) : lu (2 * m + x) (2 * b + y) = (lu m b && decide (y ≤ x)) := by
  unfold lu
  rw [and_dd x y m b hx hy]
  have h1 : x = 0 ∨ x = 1 := by omega
  have h2 : y = 0 ∨ y = 1 := by omega
  have key : ∀ p q : Nat, ((2 * p + 0 == 2 * q + 0) = (p == q)) ∧ ((2 * p + 1 == 2 * q + 1) = (p == q)) ∧ ((2 * p + 0 == 2 * q + 1) = false) := fun p q => by
    refine ⟨?_, ?_, ?_⟩
    · by_cases e : p = q
      · simp [e]
      · have h3 : ¬ 2 * p + 0 = 2 * q + 0 := by omega
        rw [beq_eq_false_iff_ne.2 h3, beq_eq_false_iff_ne.2 e]
    · by_cases e : p = q
      · simp [e]
      · have h3 : ¬ 2 * p + 1 = 2 * q + 1 := by omega
        rw [beq_eq_false_iff_ne.2 h3, beq_eq_false_iff_ne.2 e]
    · have h3 : ¬ 2 * p + 0 = 2 * q + 1 := by omega
      rw [beq_eq_false_iff_ne.2 h3]
  obtain ⟨k1, k2, k3⟩ := key (m &&& b) b
  rcases h1 with rfl | rfl <;> rcases h2 with rfl | rfl
  · simpa using k1
  · simpa using k3
  · simpa using k1
  · simpa using k2
theorem lu_zero (n : Nat) : lu n 0 = true := by simp [lu]
theorem lu_none (a : Nat) : lu 0 (a + 1) = false := by simp [lu]
/-- Pascal's rule modulo 2 -/
theorem lu_pascal : ∀ n a : Nat, lu (n + 1) (a + 1) = (lu n a != lu n (a + 1)) := by
  intro n
  induction n using Nat.strongRecOn with
  | _ n ih =>
    intro a
    rcases Nat.mod_two_eq_zero_or_one n with hn | hn <;> rcases Nat.mod_two_eq_zero_or_one a with ha | ha
    · obtain ⟨m, rfl⟩ : ∃ m, n = 2 * m + 0 := ⟨n / 2, by omega⟩
      obtain ⟨b, rfl⟩ : ∃ b, a = 2 * b + 0 := ⟨a / 2, by omega⟩
      rw [show 2 * m + 0 + 1 = 2 * m + 1 from rfl, show 2 * b + 0 + 1 = 2 * b + 1 from rfl, lu_dd 1 1 m b (by omega) (by omega), lu_dd 0 0 m b (by omega) (by omega), lu_dd 0 1 m b (by omega) (by omega)]
      simp
    · obtain ⟨m, rfl⟩ : ∃ m, n = 2 * m + 0 := ⟨n / 2, by omega⟩
      obtain ⟨b, rfl⟩ : ∃ b, a = 2 * b + 1 := ⟨a / 2, by omega⟩
      rw [show 2 * m + 0 + 1 = 2 * m + 1 from rfl, show 2 * b + 1 + 1 = 2 * (b + 1) + 0 from by omega, lu_dd 1 0 m (b + 1) (by omega) (by omega), lu_dd 0 1 m b (by omega) (by omega), lu_dd 0 0 m (b + 1) (by omega) (by omega)]
      simp
    · obtain ⟨m, rfl⟩ : ∃ m, n = 2 * m + 1 := ⟨n / 2, by omega⟩
      obtain ⟨b, rfl⟩ : ∃ b, a = 2 * b + 0 := ⟨a / 2, by omega⟩
      rw [show 2 * m + 1 + 1 = 2 * (m + 1) + 0 from by omega, show 2 * b + 0 + 1 = 2 * b + 1 from rfl, lu_dd 0 1 (m + 1) b (by omega) (by omega), lu_dd 1 0 m b (by omega) (by omega), lu_dd 1 1 m b (by omega) (by omega)]
      simp
    · obtain ⟨m, rfl⟩ : ∃ m, n = 2 * m + 1 := ⟨n / 2, by omega⟩
      obtain ⟨b, rfl⟩ : ∃ b, a = 2 * b + 1 := ⟨a / 2, by omega⟩
      rw [show 2 * m + 1 + 1 = 2 * (m + 1) + 0 from by omega, show 2 * b + 1 + 1 = 2 * (b + 1) + 0 from by omega, lu_dd 0 0 (m + 1) (b + 1) (by omega) (by omega), lu_dd 1 1 m b (by omega) (by omega), lu_dd 1 0 m (b + 1) (by omega) (by omega), ih m (by omega) b]
      simp
/-- the parity of a number of trues -/
def xorB : Nat → (Nat → Bool) → Bool
  | 0, _ => false
  | k + 1, f => xorB k f != f k
theorem xorB_front (f : Nat → Bool) : ∀ k, xorB (k + 1) f = (f 0 != xorB k fun a => f (a + 1))
  | 0 => by simp [xorB]
  | k + 1 => by
    rw [xorB, xorB_front f k, xorB]
    cases f 0 <;> cases xorB k (fun a => f (a + 1)) <;> cases f (k + 1) <;> rfl
theorem xorB_add (f g : Nat → Bool) : ∀ k, xorB k (fun a => f a != g a) = (xorB k f != xorB k g)
  | 0 => rfl
  | k + 1 => by
    rw [xorB, xorB_add f g k, xorB, xorB]
    cases xorB k f <;> cases xorB k g <;> cases f k <;> cases g k <;> rfl
theorem xorB_congr {f g : Nat → Bool} : ∀ {k}, (∀ a, a < k → f a = g a) → xorB k f = xorB k g
  | 0, _ => rfl
  | k + 1, h => by rw [xorB, xorB, xorB_congr (fun a ha => h a (by omega)), h k (by omega)]
theorem xorB_zero : ∀ {k} {f : Nat → Bool}, (∀ a, a < k → f a = false) → xorB k f = false
  | 0, _, _ => rfl
  | k + 1, f, h => by rw [xorB, xorB_zero fun a ha => h a (by omega), h k (by omega)]; rfl
/-- Vandermonde's rule modulo 2 -/
theorem lu_vander (m : Nat) : ∀ n c : Nat, xorB (c + 1) (fun a => lu n a && lu m (c - a)) = lu (n + m) c
  | 0, c => by
    rw [xorB_front, xorB_zero fun a _ => by rw [lu_none, Bool.false_and], lu_zero, Nat.zero_add]
    simp
  | n + 1, 0 => by simp [xorB, lu_zero]
  | n + 1, c + 1 => by
    have h1 := lu_vander m n c
    have h2 := lu_vander m n (c + 1)
    rw [xorB_front] at h2 ⊢
    have e : xorB (c + 1) (fun a => lu (n + 1) (a + 1) && lu m (c + 1 - (a + 1))) = (xorB (c + 1) (fun a => lu n a && lu m (c - a)) != xorB (c + 1) (fun a => lu n (a + 1) && lu m (c + 1 - (a + 1)))) := by
      rw [← xorB_add]
      refine xorB_congr fun a _ => ?_
      rw [lu_pascal, show c + 1 - (a + 1) = c - a from by omega]
      cases lu n a <;> cases lu n (a + 1) <;> cases lu m (c - a) <;> rfl
    rw [e, h1, show n + 1 + m = n + m + 1 from by omega, lu_pascal, ← h2, lu_zero, lu_zero]
    simp only [Bool.true_and, Nat.sub_zero]
    cases lu m (c + 1) <;> cases lu (n + m) c <;> cases xorB (c + 1) (fun a => lu n (a + 1) && lu m (c + 1 - (a + 1))) <;> rfl
end Go.Proofs.YtoodhbafleemjaaGreat

/- Plain: Cartan's rule: the total square of a product is the product of the total squares. -/
namespace Go.Proofs.YtoodhbafleemjaaGreat
set_option linter.unusedVariables false

/-! ### sums, linearly -/
theorem ss_flat {s t : List (List Int)} (f : List Int → List (List Int)) (h : SameSum s t) : SameSum (s.flatMap f) (t.flatMap f) := by
  have ins : ∀ (x : List Int) (s : List (List Int)), SameSum ((insX x s).flatMap f) (f x ++ s.flatMap f) := by
    intro x s
    induction s with
    | nil => simpa [insX] using SameSum.refl _
    | cons y r ih =>
      rw [insX]
      split
      · simpa using SameSum.refl _
      · split
        · intro z
          have := ih z
          simp only [List.flatMap_cons, List.count_append] at this ⊢
          omega
        · rename_i h1 h2
          have : x = y := by
            rcases ltL_tri x y with h | h | h
            · exact absurd h h1
            · exact h
            · exact absurd h h2
          subst this
          intro z
          simp only [List.flatMap_cons, List.count_append]
          omega
  have odd : ∀ s : List (List Int), SameSum (s.flatMap f) ((oddL s).flatMap f) := by
    intro s
    induction s with
    | nil => exact SameSum.refl _
    | cons x s ih =>
      refine SameSum.trans ?_ (ins x (oddL s)).symm
      rw [List.flatMap_cons]
      exact (SameSum.refl _).append ih
  refine (odd s).trans ?_
  have e : oddL s = oddL t := asc_same (oddL_asc _) (oddL_asc _) (((oddL_same s).trans h).trans (oddL_same t).symm)
  rw [e]
  exact (odd t).symm
theorem ss_each {α : Type} {s : List α} {f g : α → List (List Int)} (h : ∀ x ∈ s, SameSum (f x) (g x)) : SameSum (s.flatMap f) (s.flatMap g) := by
  induction s with
  | nil => exact SameSum.refl _
  | cons x s ih =>
    rw [List.flatMap_cons, List.flatMap_cons]
    exact (h x (by simp)).append (ih fun y hy => h y (List.mem_cons_of_mem _ hy))
theorem ss_map {s t : List (List Int)} (f : List Int → List Int) (h : SameSum s t) : SameSum (s.map f) (t.map f) := by
  have e : ∀ s : List (List Int), s.map f = s.flatMap fun x => [f x] := fun s => by
    induction s with
    | nil => rfl
    | cons x s ih => rw [List.map_cons, List.flatMap_cons, ih]; rfl
  rw [e, e]
  exact ss_flat _ h
theorem ss_add {α : Type} (f g : α → List (List Int)) : ∀ L : List α, SameSum (L.flatMap fun x => f x ++ g x) (L.flatMap f ++ L.flatMap g)
  | [] => SameSum.refl _
  | x :: L => fun z => by
    have := ss_add f g L z
    simp only [List.flatMap_cons, List.count_append] at this ⊢
    omega
theorem ss_swap {α β : Type} (F : α → β → List (List Int)) (B : List β) : ∀ A : List α, SameSum (A.flatMap fun a => B.flatMap fun b => F a b) (B.flatMap fun b => A.flatMap fun a => F a b)
  | [] => by
    have : (B.flatMap fun b => ([] : List α).flatMap fun a => F a b) = [] := by
      induction B with
      | nil => rfl
      | cons b B ih => rw [List.flatMap_cons, ih]; rfl
    rw [this]
    exact SameSum.refl _
  | a :: A => by
    rw [List.flatMap_cons]
    have e : (B.flatMap fun b => (a :: A).flatMap fun a => F a b) = B.flatMap fun b => F a b ++ A.flatMap fun a => F a b := by
      congr 1
    rw [e]
    exact ((SameSum.refl _).append (ss_swap F B A)).trans (ss_add (fun b => F a b) (fun b => A.flatMap fun a => F a b) B).symm
theorem ss_self (f : List (List Int)) : SameSum (f ++ f) [] := fun z => by rw [List.count_append]; simp; omega
theorem prodsP_congr {f f' g g' : List (List Int)} (h : SameSum f f') (k : SameSum g g') : SameSum (prodsP f g) (prodsP f' g') := by
  unfold prodsP
  exact (ss_flat _ h).trans (ss_each fun x _ => ss_map _ k)
theorem plusW_comm : ∀ x y : List Int, plusW x y = plusW y x
  | [], [] => rfl
  | [], _ :: _ => rfl
  | _ :: _, [] => rfl
  | a :: x, b :: y => by
    have := plusW_comm x y
    unfold plusW at this ⊢
    rw [List.zipWith_cons_cons, List.zipWith_cons_cons, this, Int.add_comm]
theorem plusW_assoc : ∀ x y z : List Int, plusW (plusW x y) z = plusW x (plusW y z)
  | [], y, z => by unfold plusW; simp
  | a :: x, [], z => by unfold plusW; simp
  | a :: x, b :: y, [] => by unfold plusW; simp
  | a :: x, b :: y, c :: z => by
    have := plusW_assoc x y z
    unfold plusW at this ⊢
    rw [List.zipWith_cons_cons, List.zipWith_cons_cons, List.zipWith_cons_cons, List.zipWith_cons_cons, this, Int.add_assoc]
theorem map_flat (f : List (List Int)) (F : List Int → List Int) : f.map F = f.flatMap fun x => [F x] := by
  induction f with
  | nil => rfl
  | cons x s ih => rw [List.map_cons, List.flatMap_cons, ih]; rfl
theorem prodsP_comm (f g : List (List Int)) : SameSum (prodsP f g) (prodsP g f) := by
  have e : ∀ f g : List (List Int), prodsP f g = f.flatMap fun x => g.flatMap fun y => [plusW x y] := fun f g => by
    unfold prodsP
    congr 1
    funext x
    exact map_flat g _
  rw [e, e]
  refine (ss_swap (fun x y => [plusW x y]) g f).trans ?_
  have e2 : (g.flatMap fun y => f.flatMap fun x => [plusW x y]) = g.flatMap fun y => f.flatMap fun x => [plusW y x] := by
    congr 1
    funext y
    congr 1
    funext x
    rw [plusW_comm]
  rw [e2]
  exact SameSum.refl _
theorem prodsP_assoc (f g h : List (List Int)) : prodsP (prodsP f g) h = prodsP f (prodsP g h) := by
  unfold prodsP
  rw [List.flatMap_assoc]
  congr 1
  funext x
  rw [List.flatMap_map, List.map_flatMap]
  congr 1
  funext y
  rw [List.map_map]
  congr 1
  funext z
  exact plusW_assoc x y z
theorem prodsP_app (f g h : List (List Int)) : prodsP (f ++ g) h = prodsP f h ++ prodsP g h := by unfold prodsP; rw [List.flatMap_append]
theorem prodsP_flatL {α : Type} (L : List α) (F : α → List (List Int)) (h : List (List Int)) : prodsP (L.flatMap F) h = L.flatMap fun a => prodsP (F a) h := by unfold prodsP; rw [List.flatMap_assoc]

/-! ### one variable -/
/-- the exponents of the total square of a power -/
def pwI (n : Nat) : List Int := (List.range (n + 1)).flatMap fun j => if lu n j = true then [((n + j : Nat) : Int)] else []
def sumI (A B : List Int) : List Int := A.flatMap fun a => B.map (a + ·)
theorem lu_gt : ∀ {n a : Nat}, n < a → lu n a = false := fun {n a} h => by
  unfold lu
  have h1 : n &&& a ≤ n := Nat.and_le_left
  have : ¬ (n &&& a) = a := by omega
  simpa using this
theorem pwI_count (n : Nat) (c : Int) : (pwI n).count c = if (n : Int) ≤ c ∧ lu n (c.toNat - n) = true then 1 else 0 := by
  have key : ∀ m, ((List.range m).flatMap fun j => if lu n j = true then [((n + j : Nat) : Int)] else []).count c = if (n : Int) ≤ c ∧ c.toNat - n < m ∧ lu n (c.toNat - n) = true then 1 else 0 := by
    intro m
    induction m with
    | zero => simp
    | succ m ih =>
      rw [List.range_succ, List.flatMap_append, List.count_append, ih]
      simp only [List.flatMap_cons, List.flatMap_nil, List.append_nil]
      by_cases hc : (n : Int) ≤ c
      · by_cases hm : c.toNat - n = m
        · have e : ((n + m : Nat) : Int) = c := by omega
          rw [if_neg (by omega)]
          by_cases hl : lu n m = true
          · rw [if_pos hl, e, if_pos ⟨hc, by omega, by rw [hm]; exact hl⟩]
            simp
          · rw [if_neg hl, if_neg (by rw [hm]; exact fun h => hl h.2.2)]
            simp
        · have h0 : (if lu n m = true then [((n + m : Nat) : Int)] else []).count c = 0 := by
            split
            · rw [List.count_eq_zero]
              intro h
              have := List.mem_singleton.1 h
              omega
            · simp
          rw [h0]
          by_cases hl : c.toNat - n < m
          · by_cases h2 : lu n (c.toNat - n) = true
            · rw [if_pos ⟨hc, hl, h2⟩, if_pos ⟨hc, by omega, h2⟩]
            · rw [if_neg fun h => h2 h.2.2, if_neg fun h => h2 h.2.2]
          · rw [if_neg fun h => hl h.2.1, if_neg fun h => by have := h.2.1; omega]
      · rw [if_neg (c := (n : Int) ≤ c ∧ c.toNat - n < m ∧ lu n (c.toNat - n) = true) (fun h => hc h.1), if_neg (c := (n : Int) ≤ c ∧ c.toNat - n < m + 1 ∧ lu n (c.toNat - n) = true) (fun h => hc h.1)]
        have : (if lu n m = true then [((n + m : Nat) : Int)] else []).count c = 0 := by
          split
          · rw [List.count_eq_zero]
            intro h
            have := List.mem_singleton.1 h
            omega
          · simp
        omega
  unfold pwI
  rw [key]
  by_cases hl : lu n (c.toNat - n) = true
  · have : ¬ n < c.toNat - n := fun h => by rw [lu_gt h] at hl; cases hl
    by_cases hc : (n : Int) ≤ c
    · rw [if_pos ⟨hc, by omega, hl⟩, if_pos ⟨hc, hl⟩]
    · rw [if_neg fun h => hc h.1, if_neg fun h => hc h.1]
  · rw [if_neg fun h => hl h.2.2, if_neg fun h => hl h.2]
theorem map_add_count (A : List Int) (e c : Int) : (A.map (· + e)).count c = A.count (c - e) := by
  induction A with
  | nil => rfl
  | cons a A ih =>
    rw [List.map_cons, List.count_cons, List.count_cons, ih]
    congr 1
    by_cases h : a = c - e
    · have : a + e = c := by omega
      simp [h]
    · have : ¬ a + e = c := by omega
      simp [h, this]
theorem sumI_two (A : List Int) (c : Int) : (sumI A [1, 2]).count c = A.count (c - 1) + A.count (c - 2) := by
  unfold sumI
  induction A with
  | nil => rfl
  | cons a A ih =>
    rw [List.flatMap_cons, List.count_append, ih, List.count_cons, List.count_cons]
    have h1 : ([1, 2].map (a + ·)).count c = (if a = c - 1 then 1 else 0) + (if a = c - 2 then 1 else 0) := by
      simp only [List.map_cons, List.map_nil, List.count_cons, List.count_nil, beq_iff_eq]
      repeat' split
      all_goals omega
    rw [h1]
    simp only [beq_iff_eq]
    omega
theorem pwI_succ (n : Nat) : Par (pwI (n + 1)) (sumI (pwI n) [1, 2]) := fun c => by
  rw [sumI_two, pwI_count, pwI_count, pwI_count]
  by_cases h0 : (n : Int) + 1 ≤ c
  · obtain ⟨a, ha⟩ : ∃ a : Nat, c = ((n + 1 + a : Nat) : Int) := ⟨(c - n - 1).toNat, by omega⟩
    subst ha
    have e1 : ((n + 1 + a : Nat) : Int).toNat - (n + 1) = a := by omega
    have e2 : (((n + 1 + a : Nat) : Int) - 1).toNat - n = a := by omega
    rw [e1, e2]
    cases a with
    | zero =>
      rw [lu_zero, lu_zero, if_pos ⟨by omega, rfl⟩, if_pos ⟨by omega, rfl⟩, if_neg (fun h => by have := h.1; omega)]
    | succ a =>
      have e3 : (((n + 1 + (a + 1) : Nat) : Int) - 2).toNat - n = a := by omega
      rw [e3, lu_pascal]
      have g1 : ((n + 1 : Nat) : Int) ≤ ((n + 1 + (a + 1) : Nat) : Int) := by omega
      have g2 : (n : Int) ≤ ((n + 1 + (a + 1) : Nat) : Int) - 1 := by omega
      have g3 : (n : Int) ≤ ((n + 1 + (a + 1) : Nat) : Int) - 2 := by omega
      simp only [g1, g2, g3, true_and]
      cases lu n a <;> cases lu n (a + 1) <;> simp
  · rw [if_neg (fun h => h0 (by have := h.1; omega)), if_neg (fun h => h0 (by have := h.1; omega)), if_neg (fun h => h0 (by have := h.1; omega))]
theorem sumI_assoc (A B C : List Int) : sumI (sumI A B) C = sumI A (sumI B C) := by
  unfold sumI
  rw [List.flatMap_assoc]
  congr 1
  funext a
  rw [List.flatMap_map, List.map_flatMap]
  congr 1
  funext b
  rw [List.map_map]
  congr 1
  funext c
  exact Int.add_assoc a b c
theorem sumI_congrL {A A' : List Int} (B : List Int) (h : Par A A') : Par (sumI A B) (sumI A' B) := fun z => h.flat (fun a => B.map (a + ·)) z
theorem sumI_congrR (A : List Int) {B B' : List Int} (h : Par B B') : Par (sumI A B) (sumI A B') := Par.each fun a _ => h.map (a + ·)
theorem pwI_zero : pwI 0 = [0] := by decide
theorem pwI_add (n : Nat) : ∀ m : Nat, Par (pwI (n + m)) (sumI (pwI n) (pwI m))
  | 0 => by
    rw [pwI_zero]
    have e : sumI (pwI n) [0] = pwI n := by
      unfold sumI
      generalize pwI n = A
      induction A with
      | nil => rfl
      | cons a A ih => rw [List.flatMap_cons, ih]; simp
    rw [e]
    exact Par.refl _
  | m + 1 => by
    refine (pwI_succ (n + m)).trans ?_
    refine (sumI_congrL _ (pwI_add n m)).trans ?_
    rw [sumI_assoc]
    exact sumI_congrR _ (pwI_succ m).symm

/-! ### the total square -/
def consP (A : List Int) (P : List (List Int)) : List (List Int) := A.flatMap fun a => P.map (a :: ·)
def tot : List Int → List (List Int)
  | [] => [[]]
  | n :: t => consP (pwI n.toNat) (tot t)
theorem consP_congr {A A' : List Int} {P P' : List (List Int)} (h : Par A A') (k : SameSum P P') : SameSum (consP A P) (consP A' P') := by
  unfold consP
  exact SameSum.trans (fun z => h.flat (fun a => P.map (a :: ·)) z) (ss_each fun a _ => ss_map _ k)
theorem plusW_cons (a b : Int) (x y : List Int) : plusW (a :: x) (b :: y) = (a + b) :: plusW x y := rfl
theorem consP_prods (A B : List Int) (P Q : List (List Int)) : SameSum (prodsP (consP A P) (consP B Q)) (consP (sumI A B) (prodsP P Q)) := by
  unfold consP
  rw [prodsP_flatL]
  unfold sumI
  rw [List.flatMap_assoc]
  refine ss_each fun a _ => ?_
  rw [List.flatMap_map]
  -- p, b, q against b, p, q
  have e1 : prodsP (P.map (a :: ·)) (B.flatMap fun b => Q.map (b :: ·)) = P.flatMap fun p => B.flatMap fun b => Q.map fun q => (a + b) :: plusW p q := by
    unfold prodsP
    rw [List.flatMap_map]
    congr 1
    funext p
    rw [List.map_flatMap]
    congr 1
    funext b
    rw [List.map_map]
    rfl
  have e2 : (B.flatMap fun b => (prodsP P Q).map ((a + b) :: ·)) = B.flatMap fun b => P.flatMap fun p => Q.map fun q => (a + b) :: plusW p q := by
    congr 1
    funext b
    unfold prodsP
    rw [List.map_flatMap]
    congr 1
    funext p
    rw [List.map_map]
    rfl
  rw [e1, e2]
  exact ss_swap (fun p b => Q.map fun q => (a + b) :: plusW p q) B P
theorem tot_plus : ∀ {x y : List Int}, x.length = y.length → (∀ a ∈ x, (0 : Int) ≤ a) → (∀ a ∈ y, (0 : Int) ≤ a) → SameSum (tot (plusW x y)) (prodsP (tot x) (tot y))
  | [], [], _, _, _ => by
    show SameSum [[]] (prodsP [[]] [[]])
    exact SameSum.refl _
  | a :: x, b :: y, hl, hx, hy => by
    have ih := tot_plus (x := x) (y := y) (by simpa using hl) (fun c hc => hx c (List.mem_cons_of_mem _ hc)) (fun c hc => hy c (List.mem_cons_of_mem _ hc))
    have ha := hx a (by simp)
    have hb := hy b (by simp)
    rw [plusW_cons, tot, tot, tot]
    have e : (a + b).toNat = a.toNat + b.toNat := by omega
    rw [e]
    exact (consP_congr (pwI_add a.toNat b.toNat) ih).trans (consP_prods _ _ _ _).symm
def tsqP (f : List (List Int)) : List (List Int) := f.flatMap tot
theorem tsqP_congr {f g : List (List Int)} (h : SameSum f g) : SameSum (tsqP f) (tsqP g) := ss_flat _ h
theorem tsqP_prods {k : Nat} {f g : List (List Int)} (hf : ∀ x ∈ f, x.length = k ∧ ∀ a ∈ x, (0 : Int) ≤ a) (hg : ∀ x ∈ g, x.length = k ∧ ∀ a ∈ x, (0 : Int) ≤ a) : SameSum (tsqP (prodsP f g)) (prodsP (tsqP f) (tsqP g)) := by
  have e1 : tsqP (prodsP f g) = f.flatMap fun x => g.flatMap fun y => tot (plusW x y) := by
    unfold tsqP prodsP
    rw [List.flatMap_assoc]
    congr 1
    funext x
    rw [List.flatMap_map]
  have e2 : prodsP (tsqP f) (tsqP g) = f.flatMap fun x => prodsP (tot x) (tsqP g) := by
    unfold tsqP
    rw [prodsP_flatL]
  rw [e1, e2]
  refine ss_each fun x hx => ?_
  refine SameSum.trans ?_ (prodsP_comm (tsqP g) (tot x))
  have e3 : prodsP (tsqP g) (tot x) = g.flatMap fun y => prodsP (tot y) (tot x) := by
    unfold tsqP
    rw [prodsP_flatL]
  rw [e3]
  refine ss_each fun y hy => ?_
  exact (tot_plus (by rw [(hf x hx).1, (hg y hy).1]) (hf x hx).2 (hg y hy).2).trans (prodsP_comm _ _)
end Go.Proofs.YtoodhbafleemjaaGreat

/- Plain: Cartan's rule by degrees; squares with the degree; substitutions go through squares. -/
namespace Go.Proofs.YtoodhbafleemjaaGreat
set_option linter.unusedVariables false

/-! ### the total square by degrees -/
theorem pwI_mem {n : Nat} {a : Int} (h : a ∈ pwI n) : (n : Int) ≤ a ∧ a ≤ 2 * n := by
  unfold pwI at h
  obtain ⟨j, hj, h⟩ := List.mem_flatMap.1 h
  have := List.mem_range.1 hj
  split at h
  · have := List.mem_singleton.1 h
    omega
  · cases h
theorem consP_mem {A : List Int} {P : List (List Int)} {z : List Int} : z ∈ consP A P ↔ ∃ a ∈ A, ∃ p ∈ P, z = a :: p := by
  unfold consP
  rw [List.mem_flatMap]
  constructor
  · rintro ⟨a, ha, h⟩
    obtain ⟨p, hp, rfl⟩ := List.mem_map.1 h
    exact ⟨a, ha, p, hp, rfl⟩
  · rintro ⟨a, ha, p, hp, rfl⟩
    exact ⟨a, ha, List.mem_map.2 ⟨p, hp, rfl⟩⟩
/-- exponents of at least 0, k of them -/
def Vec (k : Nat) (x : List Int) : Prop := x.length = k ∧ ∀ a ∈ x, (0 : Int) ≤ a
theorem Vec.tail {k : Nat} {n : Int} {t : List Int} (h : Vec (k + 1) (n :: t)) : Vec k t := ⟨by simpa using h.1, fun a ha => h.2 a (List.mem_cons_of_mem _ ha)⟩
theorem tot_mem : ∀ {x : List Int}, (∀ a ∈ x, (0 : Int) ≤ a) → ∀ z ∈ tot x, z.length = x.length ∧ (∀ a ∈ z, (0 : Int) ≤ a) ∧ x.sum ≤ z.sum ∧ z.sum ≤ 2 * x.sum
  | [], _, z, hz => by
    have : z = [] := by simpa [tot] using hz
    subst this
    simp
  | n :: t, hx, z, hz => by
    obtain ⟨a, ha, p, hp, rfl⟩ := consP_mem.1 hz
    have hn := hx n (by simp)
    obtain ⟨h1, h2, h3, h4⟩ := tot_mem (fun c hc => hx c (List.mem_cons_of_mem _ hc)) p hp
    have h5 := pwI_mem ha
    refine ⟨by simp [h1], fun c hc => ?_, by rw [List.sum_cons, List.sum_cons]; omega, by rw [List.sum_cons, List.sum_cons]; omega⟩
    rcases List.mem_cons.1 hc with rfl | hc
    · omega
    · exact h2 c hc
theorem flat_trunc {F : Nat → List (List Int)} {M : Nat} : ∀ {N : Nat}, M ≤ N → (∀ j, M ≤ j → j < N → F j = []) → (List.range N).flatMap F = (List.range M).flatMap F
  | 0, h, _ => by rw [show M = 0 from by omega]
  | N + 1, h, hF => by
    by_cases e : M = N + 1
    · rw [e]
    · rw [List.range_succ, List.flatMap_append, flat_trunc (N := N) (by omega) fun j h1 h2 => hF j h1 (by omega)]
      simp [hF N (by omega) (by omega)]
theorem flat_cong {F G : Nat → List (List Int)} : ∀ {N : Nat}, (∀ j, j < N → F j = G j) → (List.range N).flatMap F = (List.range N).flatMap G
  | 0, _ => rfl
  | N + 1, h => by rw [List.range_succ, List.flatMap_append, List.flatMap_append, flat_cong fun j hj => h j (by omega)]; simp [h N (by omega)]
theorem filt_cons (P : List (List Int)) (a s : Int) : (P.map (a :: ·)).filter (fun z => z.sum == s) = (P.filter fun z => z.sum == s - a).map (a :: ·) := by
  rw [List.filter_map]
  congr 1
  apply List.filter_congr
  intro z _
  show (List.sum (a :: z) == s) = (z.sum == s - a)
  rw [List.sum_cons]
  by_cases h : z.sum = s - a
  · rw [h]
    have : a + (s - a) = s := by omega
    rw [this]
    simp
  · have h2 : ¬ a + z.sum = s := by omega
    rw [beq_eq_false_iff_ne.2 h, beq_eq_false_iff_ne.2 h2]
/-- a square is the part of a degree of the total square -/
theorem sqW_tot : ∀ {x : List Int} {i : Int}, (∀ a ∈ x, (0 : Int) ≤ a) → 0 ≤ i → sqW x i = (tot x).filter fun z => z.sum == x.sum + i
  | [], i, _, hi => by
    rw [sqW, tot]
    by_cases h : i = 0
    · subst h; rfl
    · rw [if_neg h]
      have h2 : ¬ (0 : Int) = i := fun e => h e.symm
      simp [h2]
  | n :: t, i, hx, hi => by
    have hn := hx n (by simp)
    have ht := fun a ha => hx a (List.mem_cons_of_mem _ ha)
    obtain ⟨N, rfl⟩ : ∃ N : Nat, n = N := ⟨n.toNat, by omega⟩
    obtain ⟨I, rfl⟩ : ∃ I : Nat, i = I := ⟨i.toNat, by omega⟩
    have e1 : (tot ((N : Int) :: t)).filter (fun z => z.sum == ((N : Int) :: t).sum + (I : Int)) = (List.range (N + 1)).flatMap fun j => if N &&& j = j then ((tot t).filter fun z => z.sum == t.sum + ((I : Int) - j)).map (((N : Int) + j) :: ·) else [] := by
      rw [tot, Int.toNat_natCast]
      unfold consP pwI
      rw [List.flatMap_assoc, List.filter_flatMap]
      refine flat_cong fun j hj => ?_
      have el : (lu N j = true) ↔ N &&& j = j := by unfold lu; simp
      by_cases h : N &&& j = j
      · rw [if_pos (el.2 h), if_pos h]
        simp only [List.flatMap_cons, List.flatMap_nil, List.append_nil]
        rw [filt_cons]
        rw [List.sum_cons]
        have e2 : ((N + j : Nat) : Int) = (N : Int) + j := by omega
        rw [e2]
        congr 1
        apply List.filter_congr
        intro z _
        congr 1
        omega
      · rw [if_neg (fun e => h (el.1 e)), if_neg h]
        rfl
    rw [e1, sqW, Int.toNat_natCast]
    have e3 : (min (N : Int) (I : Int) + 1).toNat = min N I + 1 := by omega
    have e4 := flat_trunc (F := fun (j : Nat) => if N &&& j = j then ((tot t).filter fun z => z.sum == t.sum + ((I : Int) - j)).map (((N : Int) + j) :: ·) else []) (M := min N I + 1) (N := N + 1) (by omega) (fun j h1 h2 => by
      split
      · rename_i hl
        have : ((tot t).filter fun z => z.sum == t.sum + ((I : Int) - j)) = [] := by
          rw [List.filter_eq_nil_iff]
          intro z hz
          have := (tot_mem ht z hz).2.2.1
          simp only [beq_iff_eq]
          omega
        rw [this]; rfl
      · rfl)
    rw [e3, e4]
    refine flat_cong fun j hj => ?_
    by_cases h : N &&& j = j
    · rw [if_pos h, if_pos h, sqW_tot ht (by omega)]
    · rw [if_neg h, if_neg h]
/-- homogeneous terms -/
def Hom (k : Nat) (d : Int) (f : List (List Int)) : Prop := ∀ x ∈ f, Deg k d x
theorem sqP_tot {k : Nat} {d i : Int} {f : List (List Int)} (h : Hom k d f) (hi : 0 ≤ i) : sqP f i = (tsqP f).filter fun z => z.sum == d + i := by
  unfold sqP tsqP
  rw [List.filter_flatMap]
  induction f with
  | nil => rfl
  | cons x f ih =>
    rw [List.flatMap_cons, List.flatMap_cons, ih fun y hy => h y (List.mem_cons_of_mem _ hy)]
    obtain ⟨h0, h1, h2⟩ := h x (by simp)
    rw [sqW_tot h0 hi, h1]
theorem tsqP_mem {k : Nat} {d : Int} {f : List (List Int)} (h : Hom k d f) : ∀ z ∈ tsqP f, Vec k z ∧ d ≤ z.sum ∧ z.sum ≤ 2 * d := fun z hz => by
  obtain ⟨x, hx, hz⟩ := List.mem_flatMap.1 hz
  obtain ⟨h0, h1, h2⟩ := h x hx
  obtain ⟨a, b, c, e⟩ := tot_mem h0 z hz
  exact ⟨⟨by rw [a, h2], b⟩, by omega, by omega⟩
theorem ss_filter {s t : List (List Int)} (p : List Int → Bool) (h : SameSum s t) : SameSum (s.filter p) (t.filter p) := fun z => by
  rcases Bool.eq_false_or_eq_true (p z) with e | e
  · rw [List.count_filter e, List.count_filter e]; exact h z
  · have h1 : z ∉ s.filter p := fun hz => by have := (List.mem_filter.1 hz).2; rw [e] at this; cases this
    have h2 : z ∉ t.filter p := fun hz => by have := (List.mem_filter.1 hz).2; rw [e] at this; cases this
    rw [List.count_eq_zero.2 h1, List.count_eq_zero.2 h2]
theorem flat_pick {F : Nat → List (List Int)} {m : Nat} : ∀ N : Nat, ((List.range N).flatMap fun j => if m = j then F j else []) = if m < N then F m else []
  | 0 => by simp
  | N + 1 => by
    rw [List.range_succ, List.flatMap_append, flat_pick N]
    by_cases h1 : m < N
    · have : ¬ m = N := by omega
      rw [if_pos h1, if_pos (by omega)]
      simp [this]
    · by_cases h2 : m = N
      · subst h2
        rw [if_neg h1, if_pos (by omega)]
        simp
      · rw [if_neg h1, if_neg (by omega)]
        simp [h2]
theorem filt_prods {k : Nat} {a : List Int} {B : List (List Int)} (ha : a.length = k) (hB : ∀ b ∈ B, b.length = k) (s : Int) : (B.map (plusW a)).filter (fun z => z.sum == s) = (B.filter fun b => b.sum == s - a.sum).map (plusW a) := by
  rw [List.filter_map]
  congr 1
  apply List.filter_congr
  intro b hb
  show (List.sum (plusW a b) == s) = (b.sum == s - a.sum)
  rw [plusW_sum (by rw [ha, hB b hb])]
  by_cases h : b.sum = s - a.sum
  · have : a.sum + b.sum = s := by omega
    rw [this, h]
    simp
  · have h2 : ¬ a.sum + b.sum = s := by omega
    rw [beq_eq_false_iff_ne.2 h, beq_eq_false_iff_ne.2 h2]
/-- Cartan's rule -/
theorem cartan {k : Nat} {d e : Int} {f g : List (List Int)} (hf : Hom k d f) (hg : Hom k e g) (i : Nat) : SameSum (sqP (prodsP f g) i) ((List.range (i + 1)).flatMap fun (j : Nat) => prodsP (sqP f j) (sqP g ((i : Int) - j))) := by
  have hfg : Hom k (d + e) (prodsP f g) := prodsP_deg hf hg
  rw [sqP_tot hfg (Int.natCast_nonneg i)]
  have h1 := tsqP_prods (k := k) (f := f) (g := g) (fun x hx => ⟨(hf x hx).2.2, (hf x hx).1⟩) (fun x hx => ⟨(hg x hx).2.2, (hg x hx).1⟩)
  refine (ss_filter _ h1).trans ?_
  have hA := tsqP_mem hf
  have hB := tsqP_mem hg
  obtain ⟨A, hAe⟩ : ∃ A, A = tsqP f := ⟨_, rfl⟩
  obtain ⟨B, hBe⟩ : ∃ B, B = tsqP g := ⟨_, rfl⟩
  have e2 : ((List.range (i + 1)).flatMap fun (j : Nat) => prodsP (sqP f j) (sqP g ((i : Int) - j))) = (List.range (i + 1)).flatMap fun (j : Nat) => A.flatMap fun a => if (a.sum - d).toNat = j then ((B.filter fun b => b.sum == e + ((i : Int) - j)).map (plusW a)) else [] := by
    refine flat_cong fun j hj => ?_
    rw [sqP_tot hf (by omega), sqP_tot hg (by omega), ← hAe, ← hBe]
    unfold prodsP
    rw [← hAe] at hA
    clear hAe
    induction A with
    | nil => rfl
    | cons a A ih =>
      rw [List.flatMap_cons, ← ih fun z hz => hA z (List.mem_cons_of_mem _ hz), List.filter_cons]
      have := (hA a (by simp)).2.1
      by_cases hs : a.sum = d + j
      · rw [if_pos (by simpa using hs), if_pos (by omega), List.flatMap_cons]
      · rw [if_neg (by simpa using hs), if_neg (by omega)]
        rfl
  rw [e2, ← hAe, ← hBe]
  refine SameSum.trans ?_ (ss_swap (fun a (j : Nat) => if (a.sum - d).toNat = j then ((B.filter fun b => b.sum == e + ((i : Int) - j)).map (plusW a)) else []) (List.range (i + 1)) A)
  unfold prodsP
  rw [List.filter_flatMap]
  refine ss_each fun a ha => ?_
  have ha2 := hA a (by rw [← hAe]; exact ha)
  rw [filt_prods ha2.1.1 (fun b hb => (hB b (by rw [← hBe]; exact hb)).1.1), flat_pick]
  by_cases hi : (a.sum - d).toNat < i + 1
  · rw [if_pos hi]
    have e3 : d + e + (i : Int) - a.sum = e + ((i : Int) - ((a.sum - d).toNat : Int)) := by have := ha2.2.1; omega
    rw [e3]
    exact SameSum.refl _
  · rw [if_neg hi]
    have : (B.filter fun b => b.sum == d + e + (i : Int) - a.sum) = [] := by
      rw [List.filter_eq_nil_iff]
      intro b hb
      have h5 := (hB b (by rw [← hBe]; exact hb)).2.1
      have := ha2.2.1
      simp only [beq_iff_eq]
      omega
    rw [this]
    exact SameSum.refl _

/-! ### squares with the degree -/
theorem sqW_above {x : List Int} {i : Int} (hx : ∀ a ∈ x, (0 : Int) ≤ a) (h : x.sum < i) : sqW x i = [] := by
  have := sum_nonneg' hx
  rw [sqW_tot hx (by omega), List.filter_eq_nil_iff]
  intro z hz
  have := (tot_mem hx z hz).2.2.2
  simp only [beq_iff_eq]
  omega
theorem sqW_top : ∀ {x : List Int}, (∀ a ∈ x, (0 : Int) ≤ a) → sqW x x.sum = [plusW x x]
  | [], _ => rfl
  | n :: t, hx => by
    have hn := hx n (by simp)
    have ht := fun a ha => hx a (List.mem_cons_of_mem _ ha)
    have hs := sum_nonneg' ht
    obtain ⟨N, rfl⟩ : ∃ N : Nat, n = N := ⟨n.toNat, by omega⟩
    rw [List.sum_cons, sqW, Int.toNat_natCast]
    have e : (min (N : Int) ((N : Int) + t.sum) + 1).toNat = N + 1 := by omega
    rw [e, List.range_succ, List.flatMap_append]
    have e0 : ((List.range N).flatMap fun (j : Nat) => if N &&& j = j then (sqW t ((N : Int) + t.sum - j)).map (((N : Int) + j) :: ·) else []) = [] := by
      rw [flat_cong (G := fun _ => []) fun j hj => by
        rw [sqW_above ht (by omega)]
        split <;> rfl]
      simp
    rw [e0]
    have e1 : (N : Int) + t.sum - (N : Int) = t.sum := by omega
    simp only [List.flatMap_cons, List.flatMap_nil, List.append_nil, List.nil_append]
    rw [if_pos (Nat.and_self N), e1, sqW_top ht, plusW_cons]
    rfl
theorem sqP_above {k : Nat} {d i : Int} {f : List (List Int)} (h : Hom k d f) (hi : d < i) : sqP f i = [] := by
  unfold sqP
  rw [List.flatMap_eq_nil_iff]
  intro x hx
  obtain ⟨h0, h1, h2⟩ := h x hx
  exact sqW_above h0 (by omega)
theorem sqP_top {k : Nat} {d : Int} {f : List (List Int)} (h : Hom k d f) : sqP f d = f.map fun x => plusW x x := by
  unfold sqP
  induction f with
  | nil => rfl
  | cons x f ih =>
    rw [List.flatMap_cons, ih fun y hy => h y (List.mem_cons_of_mem _ hy), List.map_cons]
    obtain ⟨h0, h1, h2⟩ := h x (by simp)
    rw [← h1, sqW_top h0]
    rfl
theorem square_self : ∀ f : List (List Int), SameSum (prodsP f f) (f.map fun x => plusW x x)
  | [] => SameSum.refl _
  | x :: f => by
    have e1 : prodsP (x :: f) (x :: f) = plusW x x :: f.map (plusW x) ++ f.flatMap fun y => [plusW y x] ++ f.map (plusW y) := by
      unfold prodsP
      rw [List.flatMap_cons, List.map_cons]
      congr 1
    rw [e1, List.map_cons]
    have h1 := ss_add (fun y => [plusW y x]) (fun y => f.map (plusW y)) f
    have h2 : (f.flatMap fun y => [plusW y x]) = f.map (plusW x) := by
      rw [map_flat]
      congr 1
      funext y
      rw [plusW_comm]
    rw [h2] at h1
    have h3 := square_self f
    intro z
    have a1 := h1 z
    have a3 := h3 z
    unfold prodsP at a3
    simp only [List.count_append, List.count_cons, List.cons_append] at a1 ⊢
    omega
/-- the square with the degree is the square -/
theorem sq_own {k : Nat} {d : Int} {f : List (List Int)} (h : Hom k d f) : SameSum (prodsP f f) (sqP f d) := by
  rw [sqP_top h]
  exact square_self f

/-! ### substitutions -/
def ipw (k : Nat) (l : List (List Int)) : Nat → List (List Int)
  | 0 => [List.replicate k 0]
  | n + 1 => prodsP (ipw k l n) l
def subW (k : Nat) : List (List (List Int)) → List Int → List (List Int)
  | l :: ls, n :: t => prodsP (ipw k l n.toNat) (subW k ls t)
  | _, _ => [List.replicate k 0]
def subP (k : Nat) (ls : List (List (List Int))) (f : List (List Int)) : List (List Int) := f.flatMap (subW k ls)
/-- a linear form: monomials of degree 1 -/
structure LinF (k : Nat) (l : List (List Int)) : Prop where
  deg : Hom k 1 l
  tot : ∀ x ∈ l, tot x = [x, plusW x x]
theorem ipw_hom {k : Nat} {l : List (List Int)} (h : LinF k l) : ∀ n : Nat, Hom k n (ipw k l n)
  | 0 => fun x hx => by
    have := List.mem_singleton.1 hx
    subst this
    exact ⟨fun a ha => by have := List.eq_of_mem_replicate ha; omega, by simp, by simp⟩
  | n + 1 => by
    have := prodsP_deg (ipw_hom h n) h.deg
    intro x hx
    have h1 := this x hx
    have e : ((n + 1 : Nat) : Int) = (n : Int) + 1 := by omega
    rw [e]; exact h1
theorem subW_hom {k : Nat} : ∀ {ls : List (List (List Int))} {x : List Int}, (∀ l ∈ ls, LinF k l) → ls.length = x.length → (∀ a ∈ x, (0 : Int) ≤ a) → Hom k x.sum (subW k ls x)
  | [], [], _, _, _ => fun z hz => by
    have := List.mem_singleton.1 hz
    subst this
    exact ⟨fun a ha => by have := List.eq_of_mem_replicate ha; omega, by simp, by simp⟩
  | l :: ls, n :: t, hl, hlen, hx => by
    have hn := hx n (by simp)
    have h1 := ipw_hom (hl l (by simp)) n.toNat
    have h2 := subW_hom (ls := ls) (x := t) (fun l hl' => hl l (List.mem_cons_of_mem _ hl')) (by simpa using hlen) (fun a ha => hx a (List.mem_cons_of_mem _ ha))
    have e : ((n.toNat : Nat) : Int) = n := by omega
    rw [e] at h1
    rw [List.sum_cons, subW]
    exact prodsP_deg h1 h2
theorem vecs {k : Nat} {d : Int} {f : List (List Int)} (h : Hom k d f) : ∀ x ∈ f, x.length = k ∧ ∀ a ∈ x, (0 : Int) ≤ a := fun x hx => ⟨(h x hx).2.2, (h x hx).1⟩
theorem tot_zero (k : Nat) : tot (List.replicate k 0) = [List.replicate k 0] := by
  induction k with
  | zero => rfl
  | succ k ih =>
    rw [List.replicate_succ, tot, ih]
    rfl
theorem tsqP_lin {k : Nat} {l : List (List Int)} (h : LinF k l) : SameSum (tsqP l) (l ++ prodsP l l) := by
  have e : tsqP l = l.flatMap fun x => [x] ++ [plusW x x] := by
    unfold tsqP
    have key : ∀ m : List (List Int), (∀ x ∈ m, tot x = [x, plusW x x]) → m.flatMap tot = m.flatMap fun x => [x] ++ [plusW x x] := by
      intro m hm
      induction m with
      | nil => rfl
      | cons x m ih => rw [List.flatMap_cons, List.flatMap_cons, ih fun y hy => hm y (List.mem_cons_of_mem _ hy), hm x (by simp)]; rfl
    exact key l h.tot
  rw [e]
  refine (ss_add (fun x => [x]) (fun x => [plusW x x]) l).trans ?_
  rw [← map_flat l (fun x => x), ← map_flat l (fun x => plusW x x), List.map_id']
  exact (SameSum.refl _).append (square_self l).symm
theorem ipw_flat_succ (k : Nat) (l : List (List Int)) (A : List Int) (hA : ∀ a ∈ A, (0 : Int) ≤ a) : SameSum (prodsP (A.flatMap fun c => ipw k l c.toNat) (l ++ prodsP l l)) ((sumI A [1, 2]).flatMap fun c => ipw k l c.toNat) := by
  rw [prodsP_flatL]
  unfold sumI
  rw [List.flatMap_assoc]
  refine ss_each fun a ha => ?_
  have h0 := hA a ha
  have e1 : (a + 1).toNat = a.toNat + 1 := by omega
  have e2 : (a + 2).toNat = a.toNat + 2 := by omega
  simp only [List.map_cons, List.map_nil, List.flatMap_cons, List.flatMap_nil, List.append_nil]
  rw [e1, e2]
  show SameSum _ (prodsP (ipw k l a.toNat) l ++ prodsP (prodsP (ipw k l a.toNat) l) l)
  rw [prodsP_assoc]
  refine (prodsP_comm _ _).trans ?_
  rw [prodsP_app]
  exact (prodsP_comm _ _).append (prodsP_comm _ _)
theorem tsqP_ipw {k : Nat} {l : List (List Int)} (h : LinF k l) : ∀ n : Nat, SameSum (tsqP (ipw k l n)) ((pwI n).flatMap fun c => ipw k l c.toNat)
  | 0 => by
    rw [pwI_zero]
    show SameSum (tsqP [List.replicate k 0]) (([0] : List Int).flatMap fun c => ipw k l c.toNat)
    unfold tsqP
    simp only [List.flatMap_cons, List.flatMap_nil, List.append_nil]
    rw [tot_zero]
    exact SameSum.refl _
  | n + 1 => by
    show SameSum (tsqP (prodsP (ipw k l n) l)) _
    refine (tsqP_prods (k := k) (vecs (ipw_hom h n)) (vecs h.deg)).trans ?_
    refine (prodsP_congr (tsqP_ipw h n) (tsqP_lin h)).trans ?_
    refine (ipw_flat_succ k l (pwI n) fun a ha => by have := pwI_mem ha; omega).trans ?_
    exact fun z => ((pwI_succ n).symm).flat (fun c => ipw k l c.toNat) z
theorem subP_consP (k : Nat) (l : List (List Int)) (ls : List (List (List Int))) (A : List Int) (P : List (List Int)) : SameSum (prodsP (A.flatMap fun c => ipw k l c.toNat) (subP k ls P)) (subP k (l :: ls) (consP A P)) := by
  rw [prodsP_flatL]
  unfold subP consP
  rw [List.flatMap_assoc]
  refine ss_each fun a _ => ?_
  rw [List.flatMap_map]
  refine (prodsP_comm _ _).trans ?_
  rw [prodsP_flatL]
  refine ss_each fun p _ => ?_
  show SameSum _ (prodsP (ipw k l a.toNat) (subW k ls p))
  exact prodsP_comm _ _
theorem tsqP_subW {k : Nat} : ∀ {ls : List (List (List Int))} {x : List Int}, (∀ l ∈ ls, LinF k l) → ls.length = x.length → (∀ a ∈ x, (0 : Int) ≤ a) → SameSum (tsqP (subW k ls x)) (subP k ls (tot x))
  | [], [], _, _, _ => by
    show SameSum (tsqP [List.replicate k 0]) (subP k [] [[]])
    unfold tsqP subP
    simp only [List.flatMap_cons, List.flatMap_nil, List.append_nil]
    rw [tot_zero]
    exact SameSum.refl _
  | l :: ls, n :: t, hl, hlen, hx => by
    have hn := hx n (by simp)
    have hl1 := hl l (by simp)
    have hls : ∀ l ∈ ls, LinF k l := fun l hl' => hl l (List.mem_cons_of_mem _ hl')
    have hlt : ls.length = t.length := by simpa using hlen
    have ht : ∀ a ∈ t, (0 : Int) ≤ a := fun a ha => hx a (List.mem_cons_of_mem _ ha)
    rw [subW, tot]
    refine (tsqP_prods (k := k) (vecs (ipw_hom hl1 _)) (vecs (subW_hom hls hlt ht))).trans ?_
    refine (prodsP_congr (tsqP_ipw hl1 _) (tsqP_subW hls hlt ht)).trans ?_
    exact subP_consP k l ls _ _
theorem tsqP_flat (f : List (List Int)) (F : List Int → List (List Int)) : tsqP (f.flatMap F) = f.flatMap fun x => tsqP (F x) := by unfold tsqP; rw [List.flatMap_assoc]
/-- substitutions go through squares -/
theorem sub_sq {k : Nat} {d : Int} {ls : List (List (List Int))} {f : List (List Int)} (hls : ∀ l ∈ ls, LinF k l) (hlen : ls.length = k) (hf : Hom k d f) {i : Int} (hi : 0 ≤ i) : SameSum (sqP (subP k ls f) i) (subP k ls (sqP f i)) := by
  have hS : Hom k d (subP k ls f) := fun z hz => by
    obtain ⟨x, hx, hz⟩ := List.mem_flatMap.1 hz
    have h1 := subW_hom hls (x := x) (by rw [hlen, (hf x hx).2.2]) (hf x hx).1 z hz
    rw [(hf x hx).2.1] at h1
    exact h1
  rw [sqP_tot hS hi, sqP_tot hf hi]
  have h1 : SameSum (tsqP (subP k ls f)) (subP k ls (tsqP f)) := by
    unfold subP
    rw [tsqP_flat]
    unfold tsqP
    rw [List.flatMap_assoc]
    refine ss_each fun x hx => ?_
    exact tsqP_subW hls (by rw [hlen, (hf x hx).2.2]) (hf x hx).1
  refine (ss_filter _ h1).trans ?_
  have e : (subP k ls (tsqP f)).filter (fun z => z.sum == d + i) = subP k ls ((tsqP f).filter fun z => z.sum == d + i) := by
    unfold subP
    rw [List.filter_flatMap]
    have key : ∀ g : List (List Int), (∀ z ∈ g, Vec k z) → (g.flatMap fun x => (subW k ls x).filter fun z => z.sum == d + i) = (g.filter fun z => z.sum == d + i).flatMap (subW k ls) := by
      intro g hg
      induction g with
      | nil => rfl
      | cons x g ih =>
        rw [List.flatMap_cons, ih fun y hy => hg y (List.mem_cons_of_mem _ hy), List.filter_cons]
        have hx := hg x (by simp)
        have h2 := subW_hom hls (x := x) (by rw [hlen, hx.1]) hx.2
        by_cases hs : x.sum = d + i
        · rw [if_pos (by simpa using hs), List.flatMap_cons]
          congr 1
          rw [List.filter_eq_self]
          intro z hz
          rw [(h2 z hz).2.1]
          simpa using hs
        · rw [if_neg (by simpa using hs)]
          have : (subW k ls x).filter (fun z => z.sum == d + i) = [] := by
            rw [List.filter_eq_nil_iff]
            intro z hz
            rw [(h2 z hz).2.1]
            simpa using hs
          rw [this]
          rfl
    exact key _ fun z hz => (tsqP_mem hf z hz).1
  rw [e]
  exact SameSum.refl _
end Go.Proofs.YtoodhbafleemjaaGreat
