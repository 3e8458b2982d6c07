/- Plain: lists of numbers as sums over two elements; monomials as numbers. -/
import Derived.Test.YtejlkobieohgfaaOrd
namespace Go.Proofs.Ytejlkobieohgfaa
open Go.RowKit
set_option linter.unusedVariables false

/-- every number is there equally often, modulo 2 -/
def Par (s t : List Int) : Prop := ∀ z, s.count z % 2 = t.count z % 2
theorem Par.refl (s : List Int) : Par s s := fun _ => rfl
theorem Par.symm {s t : List Int} (h : Par s t) : Par t s := fun z => (h z).symm
theorem Par.trans {s t u : List Int} (h : Par s t) (k : Par t u) : Par s u := fun z => (h z).trans (k z)
theorem Par.append {s t u v : List Int} (h : Par s t) (k : Par u v) : Par (s ++ u) (t ++ v) := fun z => by
  have := h z; have := k z
  rw [List.count_append, List.count_append]; omega
theorem Par.of_perm {s t : List Int} (h : s.Perm t) : Par s t := fun z => by rw [h.count_eq]
theorem Par.each {s : List Int} {f g : Int → List Int} (h : ∀ x ∈ s, Par (f x) (g x)) : Par (s.flatMap f) (s.flatMap g) := by
  induction s with
  | nil => exact Par.refl _
  | cons x s ih =>
    rw [List.flatMap_cons, List.flatMap_cons]
    exact (h x (by simp)).append (ih fun y hy => h y (List.mem_cons_of_mem _ hy))
/-- the numbers of s that are there an odd number of times, once each -/
def oddI (s : List Int) : List Int := s.foldr (fun x r => if x ∈ r then r.erase x else x :: r) []
theorem oddI_cons (x : Int) (s : List Int) : oddI (x :: s) = if x ∈ oddI s then (oddI s).erase x else x :: oddI s := rfl
theorem oddI_nodup (s : List Int) : (oddI s).Nodup := by
  induction s with
  | nil => simp [oddI]
  | cons x s ih =>
    rw [oddI_cons]
    split
    · exact ih.erase x
    · rename_i h; exact List.nodup_cons.2 ⟨h, ih⟩
theorem oddI_par (s : List Int) : Par (oddI s) s := by
  induction s with
  | nil => exact Par.refl _
  | cons x s ih =>
    rw [oddI_cons]
    intro z
    have h1 := ih z
    split
    · rename_i h
      rw [List.count_erase, List.count_cons]
      by_cases hz : x = z
      · subst hz
        have : 0 < (oddI s).count x := List.count_pos_iff.2 h
        simp; omega
      · have e1 : (z == x) = false := by simpa using fun e => hz e.symm
        have e2 : (x == z) = false := by simpa using hz
        simp [e2]; omega
    · rw [List.count_cons, List.count_cons]; omega
theorem oddI_mem {s : List Int} {z : Int} : z ∈ oddI s ↔ s.count z % 2 = 1 := by
  have h1 := oddI_par s z
  have h2 := List.nodup_iff_count.1 (oddI_nodup s) z
  rw [← List.count_pos_iff]
  omega
theorem oddI_sub {s : List Int} {z : Int} (h : z ∈ oddI s) : z ∈ s := by
  have := oddI_mem.1 h
  exact List.count_pos_iff.1 (by omega)
/-- a function of numbers takes sums to sums -/
theorem perm_flat {s t : List Int} {α : Type} (f : Int → List α) (h : s.Perm t) : (s.flatMap f).Perm (t.flatMap f) := h.flatMap_right f
theorem oddI_flat {α : Type} [BEq α] [LawfulBEq α] (f : Int → List α) (s : List Int) (z : α) : ((oddI s).flatMap f).count z % 2 = (s.flatMap f).count z % 2 := by
  induction s with
  | nil => rfl
  | cons x s ih =>
    rw [oddI_cons, List.flatMap_cons, List.count_append]
    split
    · rename_i h
      have hp := (List.perm_cons_erase h).flatMap_right f
      have := hp.count_eq z
      rw [List.flatMap_cons, List.count_append] at this
      omega
    · rw [List.flatMap_cons, List.count_append]; omega
theorem nodup_perm {s t : List Int} (hs : s.Nodup) (ht : t.Nodup) (h : ∀ z, z ∈ s ↔ z ∈ t) : s.Perm t := (List.perm_ext_iff_of_nodup hs ht).2 h
theorem oddI_congr {s t : List Int} (h : Par s t) : (oddI s).Perm (oddI t) := nodup_perm (oddI_nodup s) (oddI_nodup t) fun z => by rw [oddI_mem, oddI_mem, h z]
theorem Par.flat {α : Type} [BEq α] [LawfulBEq α] {s t : List Int} (f : Int → List α) (h : Par s t) (z : α) : (s.flatMap f).count z % 2 = (t.flatMap f).count z % 2 := by
  rw [← oddI_flat f s z, ← oddI_flat f t z, ((oddI_congr h).flatMap_right f).count_eq z]
theorem Par.map {s t : List Int} (f : Int → Int) (h : Par s t) : Par (s.map f) (t.map f) := fun z => by
  have := h.flat (fun x => [f x]) z
  rwa [← List.map_eq_flatMap, ← List.map_eq_flatMap] at this
theorem Par.lists {s t : List Int} (f : Int → List Int) (h : Par s t) : SameSum (s.map f) (t.map f) := fun z => by
  have := h.flat (fun x => [f x]) z
  rwa [← List.map_eq_flatMap, ← List.map_eq_flatMap] at this
/-- of lists: a function takes sums to sums -/
theorem SameSum.numbers {s t : List (List Int)} (f : List Int → Int) (h : SameSum s t) : Par (s.map f) (t.map f) := by
  have one : ∀ (x : List Int) (s : List (List Int)), Par ((insX x s).map f) (f x :: s.map f) := by
    intro x s
    induction s with
    | nil => exact Par.refl _
    | cons y r ih =>
      rw [insX]
      split
      · exact Par.refl _
      · split
        · intro z
          have := ih z
          simp only [List.map_cons, List.count_cons] at this ⊢
          omega
        · rename_i h1 h2
          have : x = y := by
            rcases ltL_tri x y with h | h | h
            · exact absurd h h1
            · exact h
            · exact absurd h h2
          subst this
          intro z
          simp only [List.map_cons, List.count_cons]
          omega
  have odd : ∀ s : List (List Int), Par ((oddL s).map f) (s.map f) := by
    intro s
    induction s with
    | nil => exact Par.refl _
    | cons x s ih =>
      show Par ((insX x (oddL s)).map f) _
      refine (one x (oddL s)).trans ?_
      intro z
      have := ih z
      simp only [List.map_cons, List.count_cons] at this ⊢
      omega
  refine (odd s).symm.trans ?_
  rw [oddL_congr h]
  exact odd t

/-- the number of a monomial -/
def encP : List Int → Int
  | [] => 0
  | n :: r => n + 64 * encP r
/-- the monomial of a number, of k variables -/
def decP : Nat → Int → List Int
  | 0, _ => []
  | k + 1, c => c % 64 :: decP k (c / 64)
/-- exponents that fit -/
def fitP (x : List Int) : Prop := ∀ z ∈ x, 0 ≤ z ∧ z < 64
theorem encP_nonneg : ∀ {x : List Int}, fitP x → 0 ≤ encP x
  | [], _ => Int.le_refl _
  | n :: r, h => by
    have h1 := h n (by simp)
    have := encP_nonneg (x := r) fun z hz => h z (List.mem_cons_of_mem _ hz)
    simp only [encP]; omega
theorem encP_lt : ∀ {x : List Int}, fitP x → encP x < 64 ^ x.length
  | [], _ => by simp [encP]
  | n :: r, h => by
    have h1 := h n (by simp)
    have := encP_lt (x := r) fun z hz => h z (List.mem_cons_of_mem _ hz)
    simp only [encP, List.length_cons, Int.pow_succ]; omega
theorem dec_enc : ∀ {x : List Int}, fitP x → decP x.length (encP x) = x
  | [], _ => rfl
  | n :: r, h => by
    have h1 := h n (by simp)
    have h2 := dec_enc (x := r) fun z hz => h z (List.mem_cons_of_mem _ hz)
    simp only [encP, List.length_cons, decP]
    have e1 : (n + 64 * encP r) % 64 = n := by omega
    have e2 : (n + 64 * encP r) / 64 = encP r := by omega
    rw [e1, e2, h2]
theorem decP_len : ∀ (k : Nat) (c : Int), (decP k c).length = k
  | 0, c => rfl
  | k + 1, c => by simp [decP, decP_len k]
theorem decP_fit : ∀ (k : Nat) (c : Int), fitP (decP k c)
  | 0, c => fun z hz => by cases hz
  | k + 1, c => fun z hz => by
    simp only [decP, List.mem_cons] at hz
    rcases hz with rfl | hz
    · omega
    · exact decP_fit k _ z hz
theorem enc_dec : ∀ (k : Nat) (c : Int), 0 ≤ c → c < 64 ^ k → encP (decP k c) = c
  | 0, c, h0, h1 => by simp at h1; simp [decP, encP]; omega
  | k + 1, c, h0, h1 => by
    simp only [decP, encP]
    rw [Int.pow_succ] at h1
    rw [enc_dec k (c / 64) (by omega) (by omega)]
    omega
theorem encP_inj {x y : List Int} (hx : fitP x) (hy : fitP y) (hl : x.length = y.length) (h : encP x = encP y) : x = y := by
  rw [← dec_enc hx, ← dec_enc hy, h, hl]
/-- the sum of two lists of exponents -/
def plusW (x y : List Int) : List Int := List.zipWith (· + ·) x y
theorem encP_plus : ∀ (x y : List Int), x.length = y.length → encP (plusW x y) = encP x + encP y
  | [], [], _ => rfl
  | [], _ :: _, h => by simp at h
  | _ :: _, [], h => by simp at h
  | a :: x, b :: y, h => by
    have := encP_plus x y (by simpa using h)
    simp only [plusW] at this ⊢
    simp only [List.zipWith_cons_cons, encP, this]
    omega
theorem encP_snoc : ∀ (x : List Int) (n : Int), encP (x ++ [n]) = encP x + n * 64 ^ x.length
  | [], n => by simp [encP]
  | a :: x, n => by
    simp only [List.cons_append, encP, encP_snoc x n, List.length_cons, Int.pow_succ]
    rw [Int.mul_add, Int.add_assoc]
    congr 2
    rw [← Int.mul_assoc, Int.mul_comm 64 n, Int.mul_assoc, Int.mul_comm 64]
end Go.Proofs.Ytejlkobieohgfaa
