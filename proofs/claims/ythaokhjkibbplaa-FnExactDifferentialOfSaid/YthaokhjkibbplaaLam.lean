/- Plain: the lambda algebra on words whose sum is at most 11. Sums of words modulo the relations; every sum has one admissible form. No function of the program is named here. -/
import Derived.Test.YthaokhjkibbplaaOrd
namespace Go.Proofs.Ythaokhjkibbplaa
open Go.RowKit
set_option linter.unusedVariables false

/-- the parity of a binomial number -/
def parB (m k : Int) : Bool := Nat.beq (Nat.land m.toNat k.toNat) k.toNat
/-- the pairs of the relation for a pair (a, b) with b > 2 a -/
def relP (a b : Int) : List (Int × Int) := ((List.range 6).filter fun (j : Nat) => decide (2 * (j : Int) < b - 2 * a - 1) && parB (b - 2 * a - 1 - j - 1) j).map fun (j : Nat) => (a + (b - 2 * a - 1) - j, 2 * a + 1 + j)
/-- a generator before an admissible word, in admissible form (with repetitions) -/
def bef : Nat → Int → List Int → List (List Int)
  | 0, _, _ => []
  | f + 1, a, [] => [[a]]
  | f + 1, a, b :: r => if b ≤ 2 * a then [a :: b :: r] else (relP a b).flatMap fun p => (bef f p.2 r).flatMap fun u => bef f p.1 u
def befS (f : Nat) (a : Int) (s : List (List Int)) : List (List Int) := s.flatMap (bef f a)
def admB : List Int → Bool
  | [] => true
  | [_] => true
  | a :: b :: r => decide (b ≤ 2 * a) && admB (b :: r)
/-- all words of at most so many factors whose sum is at most m -/
def allW : Nat → Nat → (List Int → Bool) → Bool
  | 0, _, p => p []
  | k + 1, m, p => p [] && (List.range (m + 1)).all fun x => allW k (m - x) fun y => p ((x : Int) :: y)
def F : Nat := 100
def sumZ : List Int → Int
  | [] => 0
  | x :: r => x + sumZ r
def chk (y : List Int) : Bool := !admB y || (List.range 12).all fun a => (List.range 12).all fun b => !(decide (2 * a < b) && decide ((a : Int) + b + sumZ y ≤ 11)) ||
  decide (oddL (befS F a (bef F b y)) = oddL ((relP a b).flatMap fun p => befS F p.1 (bef F p.2 y)))
set_option maxRecDepth 100000 in
theorem chk_all : allW 5 11 chk = true := by decide +kernel

/-! ### sums, linearly -/
theorem SameSum.flat {s t : List (List Int)} (f : List Int → List (List Int)) (h : SameSum s t) : SameSum (s.flatMap f) (t.flatMap f) := by
  have ins : ∀ (x : List Int) (s : List (List Int)), SameSum ((insX x s).flatMap f) (f x ++ s.flatMap f) := by
    intro x s
    induction s with
    | nil => simpa [insX] using SameSum.refl _
    | cons y r ih =>
      rw [insX]
      split
      · simpa using SameSum.refl _
      · split
        · intro z
          have := ih z
          simp only [List.flatMap_cons, List.count_append] at this ⊢
          omega
        · rename_i h1 h2
          have : x = y := by
            rcases ltL_tri x y with h | h | h
            · exact absurd h h1
            · exact h
            · exact absurd h h2
          subst this
          intro z
          simp only [List.flatMap_cons, List.count_append]
          omega
  have odd : ∀ s : List (List Int), SameSum (s.flatMap f) ((oddL s).flatMap f) := by
    intro s
    induction s with
    | nil => exact SameSum.refl _
    | cons x s ih =>
      refine SameSum.trans ?_ (ins x (oddL s)).symm
      rw [List.flatMap_cons]
      exact (SameSum.refl _).append ih
  refine (odd s).trans ?_
  rw [oddL_congr h]
  exact (odd t).symm
theorem SameSum.each {s : List (List Int)} {f g : List Int → List (List Int)} (h : ∀ x ∈ s, SameSum (f x) (g x)) : SameSum (s.flatMap f) (s.flatMap g) := by
  induction s with
  | nil => exact SameSum.refl _
  | cons x s ih =>
    rw [List.flatMap_cons, List.flatMap_cons]
    exact (h x (by simp)).append (ih fun y hy => h y (List.mem_cons_of_mem _ hy))
theorem SameSum.eachP {s : List (Int × Int)} {f g : Int × Int → List (List Int)} (h : ∀ x ∈ s, SameSum (f x) (g x)) : SameSum (s.flatMap f) (s.flatMap g) := by
  induction s with
  | nil => exact SameSum.refl _
  | cons x s ih =>
    rw [List.flatMap_cons, List.flatMap_cons]
    exact (h x (by simp)).append (ih fun y hy => h y (List.mem_cons_of_mem _ hy))
theorem SameSum.swapP {s : List (List Int)} {t : List (Int × Int)} (f : List Int → Int × Int → List (List Int)) : SameSum (s.flatMap fun x => t.flatMap fun p => f x p) (t.flatMap fun p => s.flatMap fun x => f x p) := by
  induction s with
  | nil =>
    intro z
    have : (t.flatMap fun p => ([] : List (List Int)).flatMap fun x => f x p) = [] := by simp
    rw [this]; rfl
  | cons x s ih =>
    intro z
    have h1 := ih z
    have h2 : ∀ t : List (Int × Int), (t.flatMap fun p => (x :: s).flatMap fun x => f x p).count z = (t.flatMap fun p => f x p).count z + (t.flatMap fun p => s.flatMap fun x => f x p).count z := by
      intro t
      induction t with
      | nil => simp
      | cons p t ih2 =>
        simp only [List.flatMap_cons, List.count_append] at ih2 ⊢
        omega
    rw [List.flatMap_cons, List.count_append, h2 t]
    omega

/-! ### words -/
def nonN (w : List Int) : Prop := ∀ x ∈ w, 0 ≤ x
theorem sumZ_append (u v : List Int) : sumZ (u ++ v) = sumZ u + sumZ v := by
  induction u with
  | nil => simp [sumZ]
  | cons x u ih => simp [sumZ, ih]; omega
theorem sumZ_nonneg {w : List Int} (h : nonN w) : 0 ≤ sumZ w := by
  induction w with
  | nil => simp [sumZ]
  | cons x w ih =>
    have h1 := h x (by simp)
    have h2 := ih fun y hy => h y (List.mem_cons_of_mem _ hy)
    simp only [sumZ]; omega
theorem relP_mem {a b : Int} {p : Int × Int} (h : p ∈ relP a b) (ha : 0 ≤ a) : p.1 + p.2 = a + b ∧ a < p.1 ∧ 0 < p.2 ∧ 2 * a < p.2 ∧ 2 * a < b := by
  obtain ⟨j, hj, rfl⟩ := List.mem_map.1 h
  have h1 := (List.mem_filter.1 hj).2
  simp only [Bool.and_eq_true, decide_eq_true_eq] at h1
  have := h1.1
  simp only
  omega
theorem bef_word {f : Nat} {a : Int} {w u : List Int} (h : u ∈ bef f a w) (ha : 0 ≤ a) (hw : nonN w) : u.length = w.length + 1 ∧ sumZ u = a + sumZ w ∧ nonN u := by
  induction f generalizing a w u with
  | zero => simp [bef] at h
  | succ f ih =>
    cases w with
    | nil =>
      have : u = [a] := by simpa [bef] using h
      subst this
      exact ⟨rfl, rfl, by intro x hx; rw [List.mem_singleton.1 hx]; exact ha⟩
    | cons b r =>
      have hr : nonN r := fun y hy => hw y (List.mem_cons_of_mem _ hy)
      have hb := hw b (by simp)
      rw [bef] at h
      split at h
      · have : u = a :: b :: r := by simpa using h
        subst this
        refine ⟨rfl, rfl, fun x hx => ?_⟩
        rcases List.mem_cons.1 hx with rfl | hx
        · exact ha
        · exact hw x hx
      · obtain ⟨p, hp, h⟩ := List.mem_flatMap.1 h
        obtain ⟨v, hv, h⟩ := List.mem_flatMap.1 h
        have hp' := relP_mem hp ha
        obtain ⟨l1, s1, n1⟩ := ih hv (by omega) hr
        obtain ⟨l2, s2, n2⟩ := ih h (by omega) n1
        refine ⟨by rw [l2, l1]; simp, by rw [s2, s1]; simp only [sumZ]; omega, n2⟩
def meas (a : Int) (w : List Int) : Nat := w.length * 12 + (11 - a).toNat
theorem flatMap_congrP {s : List (Int × Int)} {f g : Int × Int → List (List Int)} (h : ∀ x ∈ s, f x = g x) : s.flatMap f = s.flatMap g := by
  induction s with
  | nil => rfl
  | cons x s ih => rw [List.flatMap_cons, List.flatMap_cons, h x (by simp), ih fun y hy => h y (List.mem_cons_of_mem _ hy)]
theorem flatMap_congrL {s : List (List Int)} {f g : List Int → List (List Int)} (h : ∀ x ∈ s, f x = g x) : s.flatMap f = s.flatMap g := by
  induction s with
  | nil => rfl
  | cons x s ih => rw [List.flatMap_cons, List.flatMap_cons, h x (by simp), ih fun y hy => h y (List.mem_cons_of_mem _ hy)]
theorem bef_fuel {f g : Nat} {a : Int} {w : List Int} (hf : meas a w < f) (hg : meas a w < g) (ha : 0 ≤ a) (hw : nonN w) (hs : a + sumZ w ≤ 11) : bef f a w = bef g a w := by
  induction f generalizing a w g with
  | zero => omega
  | succ f ih =>
    cases g with
    | zero => omega
    | succ g =>
      cases w with
      | nil => rfl
      | cons b r =>
        have hr : nonN r := fun y hy => hw y (List.mem_cons_of_mem _ hy)
        have hb := hw b (by simp)
        have hr0 := sumZ_nonneg hr
        simp only [sumZ] at hs
        simp only [meas, List.length_cons] at hf hg
        rw [bef, bef]
        split
        · rfl
        · refine flatMap_congrP fun p hp => ?_
          have hp' := relP_mem hp ha
          have e1 : bef f p.2 r = bef g p.2 r := ih (by simp only [meas]; omega) (by simp only [meas]; omega) (by omega) hr (by omega)
          rw [e1]
          refine flatMap_congrL fun u hu => ?_
          obtain ⟨l1, s1, n1⟩ := bef_word hu (by omega) hr
          exact ih (by simp only [meas, l1]; omega) (by simp only [meas, l1]; omega) (by omega) n1 (by rw [s1]; omega)
theorem bef_adm {a : Int} {w : List Int} (h : admB (a :: w) = true) : bef F a w = [a :: w] := by
  cases w with
  | nil => rfl
  | cons b r =>
    simp only [admB, Bool.and_eq_true, decide_eq_true_eq] at h
    show bef (99 + 1) a (b :: r) = _
    rw [bef, if_pos h.1]
theorem bef_is_adm {f : Nat} {a : Int} {w u : List Int} (h : u ∈ bef f a w) (hw : admB w = true) : admB u = true := by
  induction f generalizing a w u with
  | zero => simp [bef] at h
  | succ f ih =>
    cases w with
    | nil =>
      have : u = [a] := by simpa [bef] using h
      subst this; rfl
    | cons b r =>
      have hr : admB r = true := by
        cases r with
        | nil => rfl
        | cons c r => simp only [admB, Bool.and_eq_true] at hw; exact hw.2
      rw [bef] at h
      split at h
      · rename_i hab
        have : u = a :: b :: r := by simpa using h
        subst this
        simp only [admB, Bool.and_eq_true, decide_eq_true_eq]
        exact ⟨hab, hw⟩
      · obtain ⟨p, hp, h⟩ := List.mem_flatMap.1 h
        obtain ⟨v, hv, h⟩ := List.mem_flatMap.1 h
        exact ih h (ih hv hr)

/-! ### the admissible form of a word -/
def nf : List Int → List (List Int)
  | [] => [[]]
  | a :: w => befS F a (nf w)
theorem nf_word {w u : List Int} (h : u ∈ nf w) (hw : nonN w) : u.length = w.length ∧ sumZ u = sumZ w ∧ nonN u ∧ admB u = true := by
  induction w generalizing u with
  | nil =>
    have : u = [] := by simpa [nf] using h
    subst this
    exact ⟨rfl, rfl, by intro x hx; simp at hx, rfl⟩
  | cons a w ih =>
    obtain ⟨v, hv, h⟩ := List.mem_flatMap.1 h
    obtain ⟨l1, s1, n1, a1⟩ := ih hv fun y hy => hw y (List.mem_cons_of_mem _ hy)
    obtain ⟨l2, s2, n2⟩ := bef_word h (hw a (by simp)) n1
    exact ⟨by rw [l2, l1]; rfl, by rw [s2, s1]; rfl, n2, bef_is_adm h a1⟩
theorem adm_tail {a : Int} {w : List Int} (h : admB (a :: w) = true) : admB w = true := by
  cases w with
  | nil => rfl
  | cons b r => simp only [admB, Bool.and_eq_true] at h; exact h.2
theorem nf_adm {w : List Int} (h : admB w = true) : nf w = [w] := by
  induction w with
  | nil => rfl
  | cons a w ih =>
    rw [nf, ih (adm_tail h), befS]
    simp [bef_adm h]
theorem allW_of {k m : Nat} {p : List Int → Bool} (h : allW k m p = true) : ∀ y : List Int, y.length ≤ k → nonN y → sumZ y ≤ m → p y = true := by
  induction k generalizing m p with
  | zero =>
    intro y hl _ _
    have : y = [] := List.eq_nil_of_length_eq_zero (by omega)
    subst this
    exact h
  | succ k ih =>
    intro y hl hn hs
    simp only [allW, Bool.and_eq_true, List.all_eq_true] at h
    cases y with
    | nil => exact h.1
    | cons x y =>
      have hx := hn x (by simp)
      have hy : nonN y := fun z hz => hn z (List.mem_cons_of_mem _ hz)
      have hy0 := sumZ_nonneg hy
      simp only [sumZ] at hs
      have := ih (h.2 x.toNat (List.mem_range.2 (by omega))) y (by simpa using hl) hy (by omega)
      rwa [Int.toNat_of_nonneg hx] at this
theorem rel_op {a b : Int} {y : List Int} (ha : 0 ≤ a) (hab : 2 * a < b) (hy : admB y = true) (hl : y.length ≤ 5) (hn : nonN y) (hs : a + b + sumZ y ≤ 11) :
    SameSum (befS F a (bef F b y)) ((relP a b).flatMap fun p => befS F p.1 (bef F p.2 y)) := by
  have hy0 := sumZ_nonneg hn
  have h := allW_of chk_all y hl hn (by omega)
  simp only [chk, hy, Bool.not_true, Bool.false_or, List.all_eq_true] at h
  have h2 := h a.toNat (List.mem_range.2 (by omega)) b.toNat (List.mem_range.2 (by omega))
  rw [Int.toNat_of_nonneg ha, Int.toNat_of_nonneg (show 0 ≤ b by omega), decide_eq_true (show 2 * a.toNat < b.toNat by omega), decide_eq_true hs] at h2
  simp only [Bool.and_self, Bool.not_true, Bool.false_or, decide_eq_true_eq] at h2
  exact (oddL_same _).symm.trans (h2 ▸ oddL_same _)
theorem befS_same {a : Int} {s t : List (List Int)} (h : SameSum s t) : SameSum (befS F a s) (befS F a t) := h.flat _
/-- one step by the relation, at any place of a word -/
theorem nf_step {u v : List Int} {a b : Int} (hn : nonN (u ++ a :: b :: v)) (hs : sumZ (u ++ a :: b :: v) ≤ 11) (hl : (u ++ a :: b :: v).length ≤ 7) (hab : 2 * a < b) :
    SameSum (nf (u ++ a :: b :: v)) ((relP a b).flatMap fun p => nf (u ++ p.1 :: p.2 :: v)) := by
  induction u with
  | nil =>
    simp only [List.nil_append, sumZ] at hn hs hl ⊢
    have ha := hn a (by simp)
    have hb := hn b (by simp)
    have hv : nonN v := fun z hz => hn z (by simp [hz])
    have e : nf (a :: b :: v) = (nf v).flatMap fun y => befS F a (bef F b y) := by
      simp only [nf, befS, List.flatMap_assoc]
    rw [e]
    refine (SameSum.each (g := fun y => (relP a b).flatMap fun p => befS F p.1 (bef F p.2 y)) fun y hy => ?_).trans ?_
    · obtain ⟨l1, s1, n1, a1⟩ := nf_word hy hv
      exact rel_op ha hab a1 (by simp only [List.length_cons] at hl; omega) n1 (by rw [s1]; omega)
    · refine (SameSum.swapP fun y p => befS F p.1 (bef F p.2 y)).trans ?_
      refine SameSum.eachP fun p _ => ?_
      simp only [nf, befS, List.flatMap_assoc]
      exact SameSum.refl _
  | cons x u ih =>
    simp only [List.cons_append, sumZ] at hn hs hl ⊢
    have hx := hn x (by simp)
    have h := ih (fun z hz => hn z (List.mem_cons_of_mem _ hz)) (by omega) (by simp only [List.length_cons] at hl; omega)
    have h2 := befS_same (a := x) h
    simp only [nf]
    refine h2.trans ?_
    simp only [befS, List.flatMap_assoc]
    exact SameSum.refl _
/-- the admissible form of a sum -/
def nfS (s : List (List Int)) : List (List Int) := s.flatMap nf
theorem nfS_same {s t : List (List Int)} (h : SameSum s t) : SameSum (nfS s) (nfS t) := h.flat _
theorem nfS_adm {s : List (List Int)} (h : ∀ x ∈ s, admB x = true) : nfS s = s := by
  induction s with
  | nil => rfl
  | cons x s ih =>
    rw [nfS, List.flatMap_cons, nf_adm (h x (by simp))]
    have := ih fun y hy => h y (List.mem_cons_of_mem _ hy)
    rw [nfS] at this
    rw [this]; rfl
def formL (s : List (List Int)) : List (List Int) := oddL (nfS s)
/-- an ascending sum of admissible words with the same form is the form -/
theorem form_eq {s t : List (List Int)} (ha : Asc t) (h : ∀ x ∈ t, admB x = true) (k : SameSum (nfS t) (nfS s)) : t = formL s := by
  rw [nfS_adm h] at k
  exact oddL_eq ha k
end Go.Proofs.Ythaokhjkibbplaa
