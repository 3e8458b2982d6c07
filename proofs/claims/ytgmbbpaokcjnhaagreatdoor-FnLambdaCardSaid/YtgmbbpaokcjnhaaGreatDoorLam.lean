/- Plain: the lambda algebra on words whose sum is at most 11. Sums of words modulo the relations; every sum has one admissible form. No function of the program is named here. -/
import Derived.Test.YtgmbbpaokcjnhaaGreatDoorOrd
namespace Go.Proofs.YtgmbbpaokcjnhaaGreatDoor
open Go.RowKit
set_option linter.unusedVariables false

/-- the parity of a binomial number -/
def parB (m k : Int) : Bool := Nat.beq (Nat.land m.toNat k.toNat) k.toNat
/-- the pairs of the relation for a pair (a, b) with b > 2 a -/
def relP (a b : Int) : List (Int × Int) := ((List.range 6).filter fun (j : Nat) => decide (2 * (j : Int) < b - 2 * a - 1) && parB (b - 2 * a - 1 - j - 1) j).map fun (j : Nat) => (a + (b - 2 * a - 1) - j, 2 * a + 1 + j)
/-- a generator before an admissible word, in admissible form (with repetitions) -/
def bef : Nat → Int → List Int → List (List Int)
  | 0, _, _ => []
  | f + 1, a, [] => [[a]]
  | f + 1, a, b :: r => if b ≤ 2 * a then [a :: b :: r] else (relP a b).flatMap fun p => (bef f p.2 r).flatMap fun u => bef f p.1 u
def befS (f : Nat) (a : Int) (s : List (List Int)) : List (List Int) := s.flatMap (bef f a)
def admB : List Int → Bool
  | [] => true
  | [_] => true
  | a :: b :: r => decide (b ≤ 2 * a) && admB (b :: r)
/-- all words of at most so many factors whose sum is at most m -/
def allW : Nat → Nat → (List Int → Bool) → Bool
  | 0, _, p => p []
  | k + 1, m, p => p [] && (List.range (m + 1)).all fun x => allW k (m - x) fun y => p ((x : Int) :: y)
def F : Nat := 100
def sumZ : List Int → Int
  | [] => 0
  | x :: r => x + sumZ r
def chk (y : List Int) : Bool := !admB y || (List.range 12).all fun a => (List.range 12).all fun b => !(decide (2 * a < b) && decide ((a : Int) + b + sumZ y ≤ 11)) ||
  decide (oddL (befS F a (bef F b y)) = oddL ((relP a b).flatMap fun p => befS F p.1 (bef F p.2 y)))
set_option maxRecDepth 100000 in
theorem chk_all : allW 5 11 chk = true := by decide +kernel

/-! ### sums, linearly -/
theorem SameSum.flat {s t : List (List Int)} (f : List Int → List (List Int)) (h : SameSum s t) : SameSum (s.flatMap f) (t.flatMap f) := by
  have ins : ∀ (x : List Int) (s : List (List Int)), SameSum ((insX x s).flatMap f) (f x ++ s.flatMap f) := by
    intro x s
    induction s with
    | nil => simpa [insX] using SameSum.refl _
    | cons y r ih =>
      rw [insX]
      split
      · simpa using SameSum.refl _
      · split
        · intro z
          have := ih z
          simp only [List.flatMap_cons, List.count_append] at this ⊢
          omega
        · rename_i h1 h2
          have : x = y := by
            rcases ltL_tri x y with h | h | h
            · exact absurd h h1
            · exact h
            · exact absurd h h2
          subst this
          intro z
          simp only [List.flatMap_cons, List.count_append]
          omega
  have odd : ∀ s : List (List Int), SameSum (s.flatMap f) ((oddL s).flatMap f) := by
    intro s
    induction s with
    | nil => exact SameSum.refl _
    | cons x s ih =>
      refine SameSum.trans ?_ (ins x (oddL s)).symm
      rw [List.flatMap_cons]
      exact (SameSum.refl _).append ih
  refine (odd s).trans ?_
  rw [oddL_congr h]
  exact (odd t).symm
theorem SameSum.each {s : List (List Int)} {f g : List Int → List (List Int)} (h : ∀ x ∈ s, SameSum (f x) (g x)) : SameSum (s.flatMap f) (s.flatMap g) := by
  induction s with
  | nil => exact SameSum.refl _
  | cons x s ih =>
    rw [List.flatMap_cons, List.flatMap_cons]
    exact (h x (by simp)).append (ih fun y hy => h y (List.mem_cons_of_mem _ hy))
theorem SameSum.eachP {s : List (Int × Int)} {f g : Int × Int → List (List Int)} (h : ∀ x ∈ s, SameSum (f x) (g x)) : SameSum (s.flatMap f) (s.flatMap g) := by
  induction s with
  | nil => exact SameSum.refl _
  | cons x s ih =>
    rw [List.flatMap_cons, List.flatMap_cons]
    exact (h x (by simp)).append (ih fun y hy => h y (List.mem_cons_of_mem _ hy))
theorem SameSum.swapP {s : List (List Int)} {t : List (Int × Int)} (f : List Int → Int × Int → List (List Int)) : SameSum (s.flatMap fun x => t.flatMap fun p => f x p) (t.flatMap fun p => s.flatMap fun x => f x p) := by
  induction s with
  | nil =>
    intro z
    have : (t.flatMap fun p => ([] : List (List Int)).flatMap fun x => f x p) = [] := by simp
    rw [this]; rfl
  | cons x s ih =>
    intro z
    have h1 := ih z
    have h2 : ∀ t : List (Int × Int), (t.flatMap fun p => (x :: s).flatMap fun x => f x p).count z = (t.flatMap fun p => f x p).count z + (t.flatMap fun p => s.flatMap fun x => f x p).count z := by
      intro t
      induction t with
      | nil => simp
      | cons p t ih2 =>
        simp only [List.flatMap_cons, List.count_append] at ih2 ⊢
        omega
    rw [List.flatMap_cons, List.count_append, h2 t]
    omega

/-! ### words -/
def nonN (w : List Int) : Prop := ∀ x ∈ w, 0 ≤ x
theorem sumZ_append (u v : List Int) : sumZ (u ++ v) = sumZ u + sumZ v := by
  induction u with
  | nil => simp [sumZ]
  | cons x u ih => simp [sumZ, ih]; omega
theorem sumZ_nonneg {w : List Int} (h : nonN w) : 0 ≤ sumZ w := by
  induction w with
  | nil => simp [sumZ]
  | cons x w ih =>
    have h1 := h x (by simp)
    have h2 := ih fun y hy => h y (List.mem_cons_of_mem _ hy)
    simp only [sumZ]; omega
theorem relP_mem {a b : Int} {p : Int × Int} (h : p ∈ relP a b) (ha : 0 ≤ a) : p.1 + p.2 = a + b ∧ a < p.1 ∧ 0 < p.2 ∧ 2 * a < p.2 ∧ 2 * a < b := by
  obtain ⟨j, hj, rfl⟩ := List.mem_map.1 h
  have h1 := (List.mem_filter.1 hj).2
  simp only [Bool.and_eq_true, decide_eq_true_eq] at h1
  have := h1.1
  simp only
  omega
theorem bef_word {f : Nat} {a : Int} {w u : List Int} (h : u ∈ bef f a w) (ha : 0 ≤ a) (hw : nonN w) : u.length = w.length + 1 ∧ sumZ u = a + sumZ w ∧ nonN u := by
  induction f generalizing a w u with
  | zero => simp [bef] at h
  | succ f ih =>
    cases w with
    | nil =>
      have : u = [a] := by simpa [bef] using h
      subst this
      exact ⟨rfl, rfl, by intro x hx; rw [List.mem_singleton.1 hx]; exact ha⟩
    | cons b r =>
      have hr : nonN r := fun y hy => hw y (List.mem_cons_of_mem _ hy)
      have hb := hw b (by simp)
      rw [bef] at h
      split at h
      · have : u = a :: b :: r := by simpa using h
        subst this
        refine ⟨rfl, rfl, fun x hx => ?_⟩
        rcases List.mem_cons.1 hx with rfl | hx
        · exact ha
        · exact hw x hx
      · obtain ⟨p, hp, h⟩ := List.mem_flatMap.1 h
        obtain ⟨v, hv, h⟩ := List.mem_flatMap.1 h
        have hp' := relP_mem hp ha
        obtain ⟨l1, s1, n1⟩ := ih hv (by omega) hr
        obtain ⟨l2, s2, n2⟩ := ih h (by omega) n1
        refine ⟨by rw [l2, l1]; simp, by rw [s2, s1]; simp only [sumZ]; omega, n2⟩
def meas (a : Int) (w : List Int) : Nat := w.length * 12 + (11 - a).toNat
theorem flatMap_congrP {s : List (Int × Int)} {f g : Int × Int → List (List Int)} (h : ∀ x ∈ s, f x = g x) : s.flatMap f = s.flatMap g := by
  induction s with
  | nil => rfl
  | cons x s ih => rw [List.flatMap_cons, List.flatMap_cons, h x (by simp), ih fun y hy => h y (List.mem_cons_of_mem _ hy)]
theorem flatMap_congrL {s : List (List Int)} {f g : List Int → List (List Int)} (h : ∀ x ∈ s, f x = g x) : s.flatMap f = s.flatMap g := by
  induction s with
  | nil => rfl
  | cons x s ih => rw [List.flatMap_cons, List.flatMap_cons, h x (by simp), ih fun y hy => h y (List.mem_cons_of_mem _ hy)]
theorem bef_fuel {f g : Nat} {a : Int} {w : List Int} (hf : meas a w < f) (hg : meas a w < g) (ha : 0 ≤ a) (hw : nonN w) (hs : a + sumZ w ≤ 11) : bef f a w = bef g a w := by
  induction f generalizing a w g with
  | zero => omega
  | succ f ih =>
    cases g with
    | zero => omega
    | succ g =>
      cases w with
      | nil => rfl
      | cons b r =>
        have hr : nonN r := fun y hy => hw y (List.mem_cons_of_mem _ hy)
        have hb := hw b (by simp)
        have hr0 := sumZ_nonneg hr
        simp only [sumZ] at hs
        simp only [meas, List.length_cons] at hf hg
        rw [bef, bef]
        split
        · rfl
        · refine flatMap_congrP fun p hp => ?_
          have hp' := relP_mem hp ha
          have e1 : bef f p.2 r = bef g p.2 r := ih (by simp only [meas]; omega) (by simp only [meas]; omega) (by omega) hr (by omega)
          rw [e1]
          refine flatMap_congrL fun u hu => ?_
          obtain ⟨l1, s1, n1⟩ := bef_word hu (by omega) hr
          exact ih (by simp only [meas, l1]; omega) (by simp only [meas, l1]; omega) (by omega) n1 (by rw [s1]; omega)
theorem bef_adm {a : Int} {w : List Int} (h : admB (a :: w) = true) : bef F a w = [a :: w] := by
  cases w with
  | nil => rfl
  | cons b r =>
    simp only [admB, Bool.and_eq_true, decide_eq_true_eq] at h
    show bef (99 + 1) a (b :: r) = _
    rw [bef, if_pos h.1]
theorem bef_is_adm {f : Nat} {a : Int} {w u : List Int} (h : u ∈ bef f a w) (hw : admB w = true) : admB u = true := by
  induction f generalizing a w u with
  | zero => simp [bef] at h
  | succ f ih =>
    cases w with
    | nil =>
      have : u = [a] := by simpa [bef] using h
      subst this; rfl
    | cons b r =>
      have hr : admB r = true := by
        cases r with
        | nil => rfl
        | cons c r => simp only [admB, Bool.and_eq_true] at hw; exact hw.2
      rw [bef] at h
      split at h
      · rename_i hab
        have : u = a :: b :: r := by simpa using h
        subst this
        simp only [admB, Bool.and_eq_true, decide_eq_true_eq]
        exact ⟨hab, hw⟩
      · obtain ⟨p, hp, h⟩ := List.mem_flatMap.1 h
        obtain ⟨v, hv, h⟩ := List.mem_flatMap.1 h
        exact ih h (ih hv hr)

/-! ### the admissible form of a word -/
def nf : List Int → List (List Int)
  | [] => [[]]
  | a :: w => befS F a (nf w)
theorem nf_word {w u : List Int} (h : u ∈ nf w) (hw : nonN w) : u.length = w.length ∧ sumZ u = sumZ w ∧ nonN u ∧ admB u = true := by
  induction w generalizing u with
  | nil =>
    have : u = [] := by simpa [nf] using h
    subst this
    exact ⟨rfl, rfl, by intro x hx; simp at hx, rfl⟩
  | cons a w ih =>
    obtain ⟨v, hv, h⟩ := List.mem_flatMap.1 h
    obtain ⟨l1, s1, n1, a1⟩ := ih hv fun y hy => hw y (List.mem_cons_of_mem _ hy)
    obtain ⟨l2, s2, n2⟩ := bef_word h (hw a (by simp)) n1
    exact ⟨by rw [l2, l1]; rfl, by rw [s2, s1]; rfl, n2, bef_is_adm h a1⟩
theorem adm_tail {a : Int} {w : List Int} (h : admB (a :: w) = true) : admB w = true := by
  cases w with
  | nil => rfl
  | cons b r => simp only [admB, Bool.and_eq_true] at h; exact h.2
theorem nf_adm {w : List Int} (h : admB w = true) : nf w = [w] := by
  induction w with
  | nil => rfl
  | cons a w ih =>
    rw [nf, ih (adm_tail h), befS]
    simp [bef_adm h]
theorem allW_of {k m : Nat} {p : List Int → Bool} (h : allW k m p = true) : ∀ y : List Int, y.length ≤ k → nonN y → sumZ y ≤ m → p y = true := by
  induction k generalizing m p with
  | zero =>
    intro y hl _ _
    have : y = [] := List.eq_nil_of_length_eq_zero (by omega)
    subst this
    exact h
  | succ k ih =>
    intro y hl hn hs
    simp only [allW, Bool.and_eq_true, List.all_eq_true] at h
    cases y with
    | nil => exact h.1
    | cons x y =>
      have hx := hn x (by simp)
      have hy : nonN y := fun z hz => hn z (List.mem_cons_of_mem _ hz)
      have hy0 := sumZ_nonneg hy
      simp only [sumZ] at hs
      have := ih (h.2 x.toNat (List.mem_range.2 (by omega))) y (by simpa using hl) hy (by omega)
      rwa [Int.toNat_of_nonneg hx] at this
theorem rel_op {a b : Int} {y : List Int} (ha : 0 ≤ a) (hab : 2 * a < b) (hy : admB y = true) (hl : y.length ≤ 5) (hn : nonN y) (hs : a + b + sumZ y ≤ 11) :
    SameSum (befS F a (bef F b y)) ((relP a b).flatMap fun p => befS F p.1 (bef F p.2 y)) := by
  have hy0 := sumZ_nonneg hn
  have h := allW_of chk_all y hl hn (by omega)
  simp only [chk, hy, Bool.not_true, Bool.false_or, List.all_eq_true] at h
  have h2 := h a.toNat (List.mem_range.2 (by omega)) b.toNat (List.mem_range.2 (by omega))
  rw [Int.toNat_of_nonneg ha, Int.toNat_of_nonneg (show 0 ≤ b by omega), decide_eq_true (show 2 * a.toNat < b.toNat by omega), decide_eq_true hs] at h2
  simp only [Bool.and_self, Bool.not_true, Bool.false_or, decide_eq_true_eq] at h2
  exact (oddL_same _).symm.trans (h2 ▸ oddL_same _)
theorem befS_same {a : Int} {s t : List (List Int)} (h : SameSum s t) : SameSum (befS F a s) (befS F a t) := h.flat _
/-- one step by the relation, at any place of a word -/
theorem nf_step {u v : List Int} {a b : Int} (hn : nonN (u ++ a :: b :: v)) (hs : sumZ (u ++ a :: b :: v) ≤ 11) (hl : (u ++ a :: b :: v).length ≤ 7) (hab : 2 * a < b) :
    SameSum (nf (u ++ a :: b :: v)) ((relP a b).flatMap fun p => nf (u ++ p.1 :: p.2 :: v)) := by
  induction u with
  | nil =>
    simp only [List.nil_append, sumZ] at hn hs hl ⊢
    have ha := hn a (by simp)
    have hb := hn b (by simp)
    have hv : nonN v := fun z hz => hn z (by simp [hz])
    have e : nf (a :: b :: v) = (nf v).flatMap fun y => befS F a (bef F b y) := by
      simp only [nf, befS, List.flatMap_assoc]
    rw [e]
    refine (SameSum.each (g := fun y => (relP a b).flatMap fun p => befS F p.1 (bef F p.2 y)) fun y hy => ?_).trans ?_
    · obtain ⟨l1, s1, n1, a1⟩ := nf_word hy hv
      exact rel_op ha hab a1 (by simp only [List.length_cons] at hl; omega) n1 (by rw [s1]; omega)
    · refine (SameSum.swapP fun y p => befS F p.1 (bef F p.2 y)).trans ?_
      refine SameSum.eachP fun p _ => ?_
      simp only [nf, befS, List.flatMap_assoc]
      exact SameSum.refl _
  | cons x u ih =>
    simp only [List.cons_append, sumZ] at hn hs hl ⊢
    have hx := hn x (by simp)
    have h := ih (fun z hz => hn z (List.mem_cons_of_mem _ hz)) (by omega) (by simp only [List.length_cons] at hl; omega)
    have h2 := befS_same (a := x) h
    simp only [nf]
    refine h2.trans ?_
    simp only [befS, List.flatMap_assoc]
    exact SameSum.refl _
/-- the admissible form of a sum -/
def nfS (s : List (List Int)) : List (List Int) := s.flatMap nf
theorem nfS_same {s t : List (List Int)} (h : SameSum s t) : SameSum (nfS s) (nfS t) := h.flat _
theorem nfS_adm {s : List (List Int)} (h : ∀ x ∈ s, admB x = true) : nfS s = s := by
  induction s with
  | nil => rfl
  | cons x s ih =>
    rw [nfS, List.flatMap_cons, nf_adm (h x (by simp))]
    have := ih fun y hy => h y (List.mem_cons_of_mem _ hy)
    rw [nfS] at this
    rw [this]; rfl
def formL (s : List (List Int)) : List (List Int) := oddL (nfS s)
/-- an ascending sum of admissible words with the same form is the form -/
theorem form_eq {s t : List (List Int)} (ha : Asc t) (h : ∀ x ∈ t, admB x = true) (k : SameSum (nfS t) (nfS s)) : t = formL s := by
  rw [nfS_adm h] at k
  exact oddL_eq ha k
end Go.Proofs.YtgmbbpaokcjnhaaGreatDoor

/- Plain: bounds on lambda words; the loops of the relation; faults. -/
namespace Go.Proofs.YtgmbbpaokcjnhaaGreatDoor
open Go.RowKit
set_option linter.unusedVariables false

def chk2 (y : List Int) : Bool := !admB y || (List.range 12).all fun a => !(decide ((a : Int) + sumZ y ≤ 11)) || decide ((bef F a y).length ≤ 64)
set_option maxRecDepth 100000 in
theorem chk2_all : allW 6 11 chk2 = true := by decide +kernel
theorem bef_len {a : Int} {y : List Int} (hy : admB y = true) (ha : 0 ≤ a) (hl : y.length ≤ 6) (hn : nonN y) (hs : a + sumZ y ≤ 11) : (bef F a y).length ≤ 64 := by
  have hy0 := sumZ_nonneg hn
  have h := allW_of chk2_all y hl hn (by omega)
  simp only [chk2, hy, Bool.not_true, Bool.false_or, List.all_eq_true] at h
  have h2 := h a.toNat (List.mem_range.2 (by omega))
  rw [Int.toNat_of_nonneg ha, decide_eq_true hs] at h2
  simpa using h2
theorem nodup_le {s u : List (List Int)} (h : s.Nodup) (hs : ∀ x ∈ s, x ∈ u) : s.length ≤ u.length := by
  induction s generalizing u with
  | nil => simp
  | cons x s ih =>
    obtain ⟨h1, h2⟩ := List.nodup_cons.1 h
    have hx := hs x (by simp)
    have := ih h2 (u := u.erase x) fun y hy => (List.mem_erase_of_ne (fun e => h1 (by rw [← e]; exact hy))).2 (hs y (List.mem_cons_of_mem _ hy))
    rw [List.length_erase_of_mem hx] at this
    have hp := List.length_pos_of_mem hx
    simp only [List.length_cons]
    omega
def wordsU : Nat → Nat → List (List Int)
  | 0, _ => [[]]
  | k + 1, m => [] :: (List.range (m + 1)).flatMap fun x => (wordsU k (m - x)).map fun y => (x : Int) :: y
theorem wordsU_len (k m : Nat) (hm : m ≤ 11) : (wordsU k m).length ≤ 13 ^ k := by
  induction k generalizing m with
  | zero => simp [wordsU]
  | succ k ih =>
    have h : ∀ r : List Nat, (∀ x ∈ r, True) → (r.flatMap fun x => (wordsU k (m - x)).map fun y => (x : Int) :: y).length ≤ r.length * 13 ^ k := by
      intro r _
      induction r with
      | nil => simp
      | cons x r ih2 =>
        rw [List.flatMap_cons, List.length_append, List.length_map, List.length_cons, Nat.add_mul, Nat.one_mul]
        have h1 := ih (m - x) (by omega)
        have h2 := ih2 (fun _ _ => trivial)
        omega
    have h1 := h (List.range (m + 1)) (fun _ _ => trivial)
    rw [List.length_range] at h1
    have h2 : (m + 1) * 13 ^ k ≤ 12 * 13 ^ k := Nat.mul_le_mul_right _ (by omega)
    have h3 : 1 ≤ 13 ^ k := Nat.one_le_pow _ _ (by omega)
    rw [wordsU, List.length_cons, Nat.pow_succ]
    omega
theorem mem_wordsU {k m : Nat} {y : List Int} (hl : y.length ≤ k) (hn : nonN y) (hs : sumZ y ≤ m) : y ∈ wordsU k m := by
  induction k generalizing m y with
  | zero =>
    have : y = [] := List.eq_nil_of_length_eq_zero (by omega)
    subst this
    simp [wordsU]
  | succ k ih =>
    cases y with
    | nil => simp [wordsU]
    | cons x y =>
      have hx := hn x (by simp)
      have hy : nonN y := fun z hz => hn z (List.mem_cons_of_mem _ hz)
      have hy0 := sumZ_nonneg hy
      simp only [sumZ] at hs
      refine List.mem_cons_of_mem _ (List.mem_flatMap.2 ⟨x.toNat, List.mem_range.2 (by omega), List.mem_map.2 ⟨y, ih (by simpa using hl) hy (by omega), ?_⟩⟩)
      rw [Int.toNat_of_nonneg hx]
def cntU : Nat → Nat → Nat
  | 0, _ => 1
  | k + 1, m => 1 + ((List.range (m + 1)).map fun x => cntU k (m - x)).sum
theorem wordsU_cnt (k m : Nat) : (wordsU k m).length = cntU k m := by
  induction k generalizing m with
  | zero => rfl
  | succ k ih =>
    rw [wordsU, cntU, List.length_cons, List.length_flatMap, Nat.add_comm]
    congr 3
    funext x
    rw [List.length_map, ih]
set_option maxRecDepth 100000 in
theorem wordsU_le : (wordsU 7 11).length ≤ 75582 := by rw [wordsU_cnt]; decide +kernel
/-- a word of the lambda algebra -/
def okW (w : List Int) : Prop := w.length ≤ 7 ∧ nonN w ∧ sumZ w ≤ 11
theorem asc_len {s : List (List Int)} (h : Asc s) (hs : ∀ x ∈ s, okW x) : s.length ≤ 75582 :=
  Nat.le_trans (nodup_le (asc_nodup h) fun x hx => mem_wordsU (hs x hx).1 (hs x hx).2.1 (by have := (hs x hx).2.2; omega)) wordsU_le

/-! ### the relation as a loop -/
def relC (a b : Int) (j : Nat) : Bool := decide (2 * (j : Int) < b - 2 * a - 1) && parB (b - 2 * a - 1 - j - 1) j
def relPr (a b : Int) (j : Nat) : Int × Int := (a + (b - 2 * a - 1) - j, 2 * a + 1 + j)
def relTo (a b : Int) (k : Nat) : List (Int × Int) := ((List.range k).filter (relC a b)).map (relPr a b)
theorem relP_eq (a b : Int) : relP a b = relTo a b 6 := rfl
theorem relTo_succ_yes {a b : Int} {k : Nat} (h : relC a b k = true) : relTo a b (k + 1) = relTo a b k ++ [relPr a b k] := by
  simp [relTo, List.range_succ, List.filter_append, h]
theorem relTo_succ_no {a b : Int} {k : Nat} (h : relC a b k = false) : relTo a b (k + 1) = relTo a b k := by
  simp [relTo, List.range_succ, List.filter_append, h]
theorem relTo_end {a b : Int} {k : Nat} (h : b - 2 * a - 1 ≤ 2 * (k : Int)) (hk : k ≤ 6) : relTo a b k = relP a b := by
  rw [relP_eq]
  obtain ⟨d, hd⟩ : ∃ d, 6 = k + d := ⟨6 - k, by omega⟩
  rw [hd]
  clear hd hk
  induction d with
  | zero => rfl
  | succ d ih =>
    rw [← Nat.add_assoc, relTo_succ_no (by simp only [relC, Bool.and_eq_false_iff, decide_eq_false_iff_not]; left; omega)]
    exact ih
theorem relTo_mem {a b : Int} {k : Nat} {p : Int × Int} (h : p ∈ relTo a b k) : ∃ j, j < k ∧ relC a b j = true ∧ p = relPr a b j := by
  obtain ⟨j, hj, rfl⟩ := List.mem_map.1 h
  obtain ⟨h1, h2⟩ := List.mem_filter.1 hj
  exact ⟨j, List.mem_range.1 h1, h2, rfl⟩

/-! ### the first fault of a word -/
def flt : List Int → Int
  | [] => -1
  | [_] => -1
  | a :: b :: r => if 2 * a < b then 0 else if flt (b :: r) < 0 then -1 else flt (b :: r) + 1
theorem flt_ge (w : List Int) : -1 ≤ flt w := by
  induction w with
  | nil => simp [flt]
  | cons a w ih =>
    cases w with
    | nil => simp [flt]
    | cons b r => rw [flt]; split; omega; split <;> omega
theorem flt_neg {w : List Int} (h : flt w < 0) : admB w = true := by
  induction w with
  | nil => rfl
  | cons a w ih =>
    cases w with
    | nil => rfl
    | cons b r =>
      rw [flt] at h
      split at h
      · omega
      · rename_i h1
        split at h
        · rename_i h2
          simp only [admB, Bool.and_eq_true, decide_eq_true_eq]
          exact ⟨by omega, ih h2⟩
        · omega
theorem flt_at {w : List Int} {k : Nat} (h : flt w = k) : ∃ u a b v, w = u ++ a :: b :: v ∧ u.length = k ∧ 2 * a < b := by
  induction w generalizing k with
  | nil => simp only [flt] at h; omega
  | cons a w ih =>
    cases w with
    | nil => simp only [flt] at h; omega
    | cons b r =>
      rw [flt] at h
      split at h
      · rename_i h1
        exact ⟨[], a, b, r, rfl, by simp; omega, h1⟩
      · split at h
        · omega
        · obtain ⟨u, c, d, v, e, hl, hcd⟩ := ih (k := k - 1) (by omega)
          exact ⟨a :: u, c, d, v, by rw [e]; rfl, by simp [hl]; omega, hcd⟩
theorem flt_step {w : List Int} {k : Nat} {x y : Int} (hx : Hid (w[k]? = some x)) (hy : Hid (w[k + 1]? = some y)) (h : ¬ 2 * x < y) : flt (w.drop k) = if flt (w.drop (k + 1)) < 0 then -1 else flt (w.drop (k + 1)) + 1 := by
  obtain ⟨h1, e1⟩ := List.getElem?_eq_some_iff.1 hx.out
  obtain ⟨h2, e2⟩ := List.getElem?_eq_some_iff.1 hy.out
  rw [List.drop_eq_getElem_cons h1, List.drop_eq_getElem_cons h2, e1, e2, flt, if_neg h]
theorem flt_hit {w : List Int} {k : Nat} {x y : Int} (hx : Hid (w[k]? = some x)) (hy : Hid (w[k + 1]? = some y)) (h : 2 * x < y) : flt (w.drop k) = 0 := by
  obtain ⟨h1, e1⟩ := List.getElem?_eq_some_iff.1 hx.out
  obtain ⟨h2, e2⟩ := List.getElem?_eq_some_iff.1 hy.out
  rw [List.drop_eq_getElem_cons h1, List.drop_eq_getElem_cons h2, e1, e2, flt, if_pos h]
theorem flt_end {w : List Int} {k : Nat} (h : w.length ≤ k + 1) : flt (w.drop k) = -1 := by
  have : (w.drop k).length ≤ 1 := by rw [List.length_drop]; omega
  match hd : w.drop k with
  | [] => rfl
  | [_] => rfl
  | _ :: _ :: _ => rw [hd] at this; simp at this
theorem bits_and {a b : Nat} (ha : a < 9223372036854775808) (hb : b < 9223372036854775808) : bits .and .i64 (a : Int) (b : Int) = ((a &&& b : Nat) : Int) := by
  have hx : a &&& b < 2 ^ 63 := Nat.and_lt_two_pow _ (by omega)
  have o : ∀ a : Nat, a < 9223372036854775808 → (BitVec.ofInt 64 (a : Int)).toNat = a := fun a ha => by
    rw [BitVec.ofInt_natCast, BitVec.toNat_ofNat]; exact Nat.mod_eq_of_lt (by omega)
  show IntKind.i64.wrap ((BitVec.ofInt 64 (a : Int) &&& BitVec.ofInt 64 (b : Int)).toNat : Int) = _
  rw [BitVec.toNat_and, o a ha, o b hb, IntKind.wrap_i64]
  omega
end Go.Proofs.YtgmbbpaokcjnhaaGreatDoor

/- Plain: the reference's way to the admissible form: the first word with a fault is replaced by the words of the relation, until none has one. -/
namespace Go.Proofs.YtgmbbpaokcjnhaaGreatDoor
open Go.RowKit
set_option linter.unusedVariables false

def uni : List (List Int) := wordsU 7 11
/-- how much is still to come: the words from the one at this place on -/
def mu (T : List (List Int)) (i : Nat) : Nat := match T[i]? with
  | none => 0
  | some x => (uni.filter fun u => !ltL u x).length + 1
theorem filter_less {u : List (List Int)} {p q : List Int → Bool} (h : ∀ x, q x = true → p x = true) {x : List Int} (hx : x ∈ u) (hp : p x = true) (hq : q x = false) : (u.filter q).length < (u.filter p).length := by
  have le : ∀ u : List (List Int), (u.filter q).length ≤ (u.filter p).length := by
    intro u
    induction u with
    | nil => simp
    | cons a u ih =>
      cases h1 : q a
      · rw [List.filter_cons_of_neg (by simp [h1])]
        cases h2 : p a
        · rw [List.filter_cons_of_neg (by simp [h2])]; exact ih
        · rw [List.filter_cons_of_pos h2, List.length_cons]; omega
      · rw [List.filter_cons_of_pos h1, List.filter_cons_of_pos (h a h1), List.length_cons, List.length_cons]; omega
  induction u with
  | nil => simp at hx
  | cons a u ih =>
    rcases List.mem_cons.1 hx with rfl | hx
    · rw [List.filter_cons_of_neg (by simp [hq]), List.filter_cons_of_pos hp, List.length_cons]
      have := le u
      omega
    · have := ih hx
      cases h1 : q a
      · rw [List.filter_cons_of_neg (by simp [h1])]
        cases h2 : p a
        · rw [List.filter_cons_of_neg (by simp [h2])]; exact this
        · rw [List.filter_cons_of_pos h2, List.length_cons]; omega
      · rw [List.filter_cons_of_pos h1, List.filter_cons_of_pos (h a h1), List.length_cons, List.length_cons]; omega
theorem mu_lt {T T' : List (List Int)} {i j : Nat} {x : List Int} (hx : T[i]? = some x) (hok : okW x) (h : T'[j]? = none ∨ ∃ y, T'[j]? = some y ∧ ltL x y = true) : mu T' j < mu T i := by
  unfold mu
  rw [hx]
  rcases h with h | ⟨y, h, hlt⟩
  · rw [h]; simp
  · rw [h]
    simp only
    have := filter_less (u := uni) (p := fun u => !ltL u x) (q := fun u => !ltL u y) (fun z hz => by
      cases h1 : ltL z x
      · rfl
      · rw [ltL_trans h1 hlt] at hz; exact hz) (x := x) (mem_wordsU hok.1 hok.2.1 (by have := hok.2.2; omega)) (by simp [ltL_irrefl]) (by simp [hlt])
    omega
theorem asc_part {t : List (List Int)} (h : Asc t) (x : List Int) : t = (t.filter fun z => ltL z x) ++ t.filter fun z => !ltL z x := by
  induction t with
  | nil => rfl
  | cons a t ih =>
    obtain ⟨h1, h2⟩ := List.pairwise_cons.1 h
    cases ha : ltL a x
    · have e : t.filter (fun z => ltL z x) = [] := by
        rw [List.filter_eq_nil_iff]
        intro z hz hzx
        have := ltL_trans (h1 z hz) hzx
        rw [this] at ha; cases ha
      rw [List.filter_cons_of_neg (by simp [ha]), e, List.filter_cons_of_pos (by simp [ha]), List.nil_append]
      congr 1
      have := ih h2
      rw [e, List.nil_append] at this
      exact this
    · rw [List.filter_cons_of_pos (p := fun z => ltL z x) ha, List.filter_cons_of_neg (p := fun z => !ltL z x) (by simp [ha]), List.cons_append]
      congr 1
      exact ih h2
theorem asc_take {s : List (List Int)} (h : Asc s) {i : Nat} {x : List Int} (hx : s[i]? = some x) : s.take i = s.filter fun z => ltL z x := by
  obtain ⟨hi, e⟩ := List.getElem?_eq_some_iff.1 hx
  have e1 : s = s.take i ++ s.drop i := (List.take_append_drop i s).symm
  have hp := List.pairwise_iff_getElem.1 h
  have f1 : (s.take i).filter (fun z => ltL z x) = s.take i := by
    rw [List.filter_eq_self]
    intro z hz
    obtain ⟨j, hj, rfl⟩ := List.getElem_of_mem hz
    rw [List.length_take] at hj
    rw [List.getElem_take, ← e]
    exact hp j i (by omega) hi (by omega)
  have f2 : (s.drop i).filter (fun z => ltL z x) = [] := by
    rw [List.filter_eq_nil_iff]
    intro z hz hzx
    obtain ⟨j, hj, rfl⟩ := List.getElem_of_mem hz
    rw [List.length_drop] at hj
    rw [List.getElem_drop] at hzx
    rcases Nat.eq_zero_or_pos j with rfl | hj0
    · simp only [Nat.add_zero, e] at hzx
      rw [ltL_irrefl] at hzx; cases hzx
    · have := hp i (i + j) hi (by omega) (by omega)
      rw [e] at this
      have := ltL_trans this hzx
      rw [ltL_irrefl] at this; cases this
  conv => rhs; rw [e1]
  rw [List.filter_append, f1, f2, List.append_nil]
theorem asc_front {s t : List (List Int)} (hs : Asc s) (ht : Asc t) {i : Nat} {x : List Int} (hx : s[i]? = some x) (hm : ∀ z, ltL z x = true → (z ∈ t ↔ z ∈ s)) (hn : x ∉ t) :
    (∀ j, j < i → t[j]? = s[j]?) ∧ (t[i]? = none ∨ ∃ y, t[i]? = some y ∧ ltL x y = true) := by
  have hi := (List.getElem?_eq_some_iff.1 hx).1
  have e1 := asc_take hs hx
  have e2 : t.filter (fun z => ltL z x) = s.take i := by
    rw [e1]
    refine asc_ext (ht.filter _) (hs.filter _) fun z => ?_
    rw [List.mem_filter, List.mem_filter]
    exact ⟨fun h => ⟨(hm z h.2).1 h.1, h.2⟩, fun h => ⟨(hm z h.2).2 h.1, h.2⟩⟩
  have e3 := asc_part ht x
  rw [e2] at e3
  have hl : (s.take i).length = i := by rw [List.length_take]; omega
  refine ⟨fun j hj => ?_, ?_⟩
  · rw [e3, List.getElem?_append_left (by omega), List.getElem?_take_of_lt hj]
  · rw [e3, List.getElem?_append_right (by omega), hl, Nat.sub_self]
    match hr : t.filter (fun z => !ltL z x) with
    | [] => exact .inl rfl
    | y :: r =>
      refine .inr ⟨y, rfl, ?_⟩
      have hy : y ∈ t.filter (fun z => !ltL z x) := by rw [hr]; simp
      obtain ⟨h1, h2⟩ := List.mem_filter.1 hy
      rcases ltL_tri x y with h | h | h
      · exact h
      · exact absurd (h ▸ h1) hn
      · rw [h] at h2; cases h2

theorem cmp_prefix (u : List Int) {a c : Int} (v v' : List Int) (h : a < c) : ltL (u ++ a :: v) (u ++ c :: v') = true := by
  rw [ltL_iff]
  induction u with
  | nil => simp [cmpL, h]
  | cons x u ih => simp only [List.cons_append, cmpL, Int.lt_irrefl, if_false]; exact ih

structure RedInv (xss T : List (List Int)) (i : Nat) : Prop where
  asc : Asc T
  ok : ∀ x ∈ T, okW x
  same : SameSum (nfS T) (nfS xss)
  adm : ∀ j, j < i → ∀ x, T[j]? = some x → admB x = true
theorem RedInv.next {xss T : List (List Int)} {i : Nat} {x : List Int} (h : RedInv xss T i) (hx : T[i]? = some x) (ha : admB x = true) : RedInv xss T (i + 1) ∧ mu T (i + 1) < mu T i := by
  refine ⟨⟨h.asc, h.ok, h.same, fun j hj y hy => ?_⟩, mu_lt hx (h.ok x (List.mem_of_getElem? hx)) ?_⟩
  · by_cases e : j = i
    · subst e; rw [hx] at hy; injection hy with hy; exact hy ▸ ha
    · exact h.adm j (by omega) y hy
  · cases hy : T[i + 1]? with
    | none => exact .inl rfl
    | some y =>
      refine .inr ⟨y, rfl, ?_⟩
      obtain ⟨h1, e1⟩ := List.getElem?_eq_some_iff.1 hx
      obtain ⟨h2, e2⟩ := List.getElem?_eq_some_iff.1 hy
      have := (List.pairwise_iff_getElem.1 h.asc) i (i + 1) h1 h2 (by omega)
      rwa [e1, e2] at this
theorem RedInv.end_ {xss T : List (List Int)} {i : Nat} (h : RedInv xss T i) (hi : T.length ≤ i) : T = formL xss :=
  form_eq h.asc (fun x hx => by
    obtain ⟨j, hj, rfl⟩ := List.getElem_of_mem hx
    exact h.adm j (by omega) _ (List.getElem?_eq_getElem hj)) h.same
/-- the words that stand for a word with a fault -/
def repl (u v : List Int) (a b : Int) : List (List Int) := (relP a b).map fun p => u ++ p.1 :: p.2 :: v
theorem repl_ok {u v : List Int} {a b : Int} (h : okW (u ++ a :: b :: v)) : ∀ y ∈ repl u v a b, okW y ∧ ltL (u ++ a :: b :: v) y = true := by
  intro y hy
  obtain ⟨p, hp, rfl⟩ := List.mem_map.1 hy
  have ha : 0 ≤ a := h.2.1 a (by simp)
  have hp' := relP_mem hp ha
  obtain ⟨h1, h2, h3⟩ := h
  refine ⟨⟨by simpa using h1, fun z hz => ?_, ?_⟩, cmp_prefix u (b :: v) (p.2 :: v) hp'.2.1⟩
  · rcases List.mem_append.1 hz with hz | hz
    · exact h2 z (List.mem_append_left _ hz)
    · rcases List.mem_cons.1 hz with rfl | hz
      · omega
      · rcases List.mem_cons.1 hz with rfl | hz
        · omega
        · exact h2 z (by simp [hz])
  · rw [sumZ_append] at h3 ⊢
    simp only [sumZ] at h3 ⊢
    omega
theorem RedInv.step {xss T more : List (List Int)} {i : Nat} {u v : List Int} {a b : Int} (h : RedInv xss T i) (hx : T[i]? = some (u ++ a :: b :: v)) (hab : 2 * a < b) (hma : Asc more) (hm : SameSum more ((u ++ a :: b :: v) :: repl u v a b))
    (hmm : ∀ y ∈ more, y = u ++ a :: b :: v ∨ y ∈ repl u v a b) : RedInv xss (oddL (T ++ more)) i ∧ mu (oddL (T ++ more)) i < mu T i ∧ i ≤ (oddL (T ++ more)).length := by
  have hok := h.ok _ (List.mem_of_getElem? hx)
  have hr := repl_ok hok
  obtain ⟨x, hxe⟩ : ∃ x, x = u ++ a :: b :: v := ⟨_, rfl⟩
  have cnt : ∀ z, ltL z x = true → more.count z = 0 := fun z hz => by
    rw [List.count_eq_zero]
    intro hzm
    rcases hmm z hzm with e | hzr
    · rw [e, ← hxe, ltL_irrefl] at hz; cases hz
    · have := (hr z hzr).2
      rw [← hxe] at this
      have := ltL_trans this hz
      rw [ltL_irrefl] at this; cases this
  have odd : ∀ z, z ∈ oddL (T ++ more) ↔ (T.count z + more.count z) % 2 = 1 := fun z => by
    have h1 := oddL_same (T ++ more) z
    rw [asc_count (oddL_asc _), List.count_append] at h1
    by_cases hz : z ∈ oddL (T ++ more)
    · rw [if_pos hz] at h1; exact ⟨fun _ => by omega, fun _ => hz⟩
    · rw [if_neg hz] at h1; exact ⟨fun hz' => absurd hz' hz, fun h2 => by omega⟩
  have hf := asc_front h.asc (oddL_asc (T ++ more)) hx (fun z hz => by
    rw [← hxe] at hz
    rw [odd z, cnt z hz, Nat.add_zero, asc_count h.asc]
    by_cases hzT : z ∈ T <;> simp [hzT]) (by
    rw [odd, asc_count h.asc, if_pos (List.mem_of_getElem? hx)]
    have h1 := hm (u ++ a :: b :: v)
    have h2 : (repl u v a b).count (u ++ a :: b :: v) = 0 := by
      rw [List.count_eq_zero]
      intro hz
      have := (hr _ hz).2
      rw [ltL_irrefl] at this; cases this
    rw [List.count_cons_self, h2] at h1
    omega)
  refine ⟨⟨oddL_asc _, fun y hy => ?_, ?_, fun j hj y hy => ?_⟩, mu_lt hx hok hf.2, ?_⟩
  · rcases List.mem_append.1 (oddL_mem hy) with hy | hy
    · exact h.ok y hy
    · rcases hmm y hy with e | hy
      · rw [e]; exact hok
      · exact (hr y hy).1
  · refine (nfS_same (oddL_same _)).trans ?_
    have e : nfS (T ++ more) = nfS T ++ nfS more := by simp [nfS]
    rw [e]
    have h1 : SameSum (nfS more) (nf (u ++ a :: b :: v) ++ (relP a b).flatMap fun p => nf (u ++ p.1 :: p.2 :: v)) := by
      refine (nfS_same hm).trans ?_
      have : nfS ((u ++ a :: b :: v) :: repl u v a b) = nf (u ++ a :: b :: v) ++ (relP a b).flatMap fun p => nf (u ++ p.1 :: p.2 :: v) := by
        simp [nfS, repl, List.flatMap_map]
      rw [this]
      exact SameSum.refl _
    have h2 := nf_step hok.2.1 hok.2.2 hok.1 hab
    have h3 : SameSum (nfS T ++ nfS more) (nfS T) := fun z => by
      have := h1 z
      have := h2 z
      rw [List.count_append] at *
      omega
    exact h3.trans h.same
  · rw [hf.1 j hj] at hy
    exact h.adm j hj y hy
  · rcases Nat.eq_zero_or_pos i with rfl | hi
    · exact Nat.zero_le _
    · have hi2 := (List.getElem?_eq_some_iff.1 hx).1
      have h1 := hf.1 (i - 1) (by omega)
      rw [List.getElem?_eq_getElem (show i - 1 < T.length by omega)] at h1
      have := (List.getElem?_eq_some_iff.1 h1).1
      omega
end Go.Proofs.YtgmbbpaokcjnhaaGreatDoor

/- Plain: products in the lambda algebra: the form of a product of forms is the form of the product. -/
namespace Go.Proofs.YtgmbbpaokcjnhaaGreatDoor
open Go.RowKit
set_option linter.unusedVariables false

theorem SameSum.swapL {s t : List (List Int)} (f : List Int → List Int → List (List Int)) : SameSum (s.flatMap fun x => t.flatMap fun p => f x p) (t.flatMap fun p => s.flatMap fun x => f x p) := by
  induction s with
  | nil =>
    simp only [List.flatMap_nil]
    have : (t.flatMap fun _ => ([] : List (List Int))) = [] := by induction t <;> simp_all
    rw [this]
    exact SameSum.refl _
  | cons x s ih =>
    simp only [List.flatMap_cons]
    refine ((SameSum.refl _).append ih).trans ?_
    clear ih
    induction t with
    | nil => exact SameSum.refl _
    | cons p t ih =>
      simp only [List.flatMap_cons]
      have h1 : SameSum ((f x p ++ t.flatMap fun p => f x p) ++ ((s.flatMap fun x => f x p) ++ t.flatMap fun p => s.flatMap fun x => f x p)) ((f x p ++ s.flatMap fun x => f x p) ++ ((t.flatMap fun p => f x p) ++ t.flatMap fun p => s.flatMap fun x => f x p)) := by
        intro z
        simp only [List.count_append]
        omega
      exact h1.trans ((SameSum.refl _).append ih)

theorem nonN_app {u v : List Int} (h : nonN (u ++ v)) : nonN u ∧ nonN v := ⟨fun z hz => h z (List.mem_append_left _ hz), fun z hz => h z (List.mem_append_right _ hz)⟩
theorem nonN_cons {a : Int} {v : List Int} (h : 0 ≤ a) (h2 : nonN v) : nonN (a :: v) := fun z hz => (List.mem_cons.1 hz).elim (fun e => e ▸ h) (h2 z)
theorem nonN_mk {u v : List Int} (h1 : nonN u) (h2 : nonN v) : nonN (u ++ v) := fun z hz => (List.mem_append.1 hz).elim (h1 z) (h2 z)
theorem okW_app {u v : List Int} (hu : nonN u) (hv : nonN v) (hl : u.length + v.length ≤ 7) (hs : sumZ u + sumZ v ≤ 11) : okW (u ++ v) := ⟨by rw [List.length_append]; exact hl, nonN_mk hu hv, by rw [sumZ_append]; exact hs⟩

theorem bef_left {f : Nat} {i : Int} {z v : List Int} (hf : meas i z < f) (h : okW (i :: z ++ v)) : SameSum (nf (i :: z ++ v)) ((bef f i z).flatMap fun t => nf (t ++ v)) := by
  induction f generalizing i z v with
  | zero => omega
  | succ f ih =>
    cases z with
    | nil => simp only [bef, List.flatMap_cons, List.flatMap_nil, List.append_nil]; exact SameSum.refl _
    | cons b r =>
      rw [bef]
      split
      · simp only [List.flatMap_cons, List.flatMap_nil, List.append_nil]; exact SameSum.refl _
      · rename_i hb
        simp only [List.cons_append] at h ⊢
        have hi := h.2.1 i (by simp)
        have hbn := h.2.1 b (by simp)
        have hrv : nonN (r ++ v) := fun z hz => h.2.1 z (List.mem_cons_of_mem _ (List.mem_cons_of_mem _ hz))
        obtain ⟨hr, hv⟩ := nonN_app hrv
        have hs := h.2.2
        have hl := h.1
        simp only [sumZ, sumZ_append, List.length_cons, List.length_append] at hs hl
        have h1 := nf_step (u := []) (v := r ++ v) (a := i) (b := b) h.2.1 h.2.2 h.1 (by omega)
        refine h1.trans ?_
        simp only [List.nil_append]
        rw [List.flatMap_assoc]
        refine SameSum.eachP fun p hp => ?_
        obtain ⟨e1, e2, e3, e4, _⟩ := relP_mem hp hi
        have hp2 : okW (p.2 :: r ++ v) := okW_app (u := p.2 :: r) (nonN_cons (by omega) hr) hv (by simp only [List.length_cons]; omega) (by simp only [sumZ]; omega)
        have h2 := befS_same (a := p.1) (ih (i := p.2) (z := r) (v := v) (by unfold meas at hf ⊢; simp only [List.length_cons] at hf; omega) hp2)
        simp only [List.cons_append] at h2
        show SameSum (befS F p.1 (nf (p.2 :: (r ++ v)))) _
        refine h2.trans ?_
        rw [List.flatMap_assoc]
        simp only [befS, List.flatMap_assoc]
        refine SameSum.each fun u hu => ?_
        obtain ⟨l1, s1, n1⟩ := bef_word hu (by omega) hr
        have hu2 : okW (p.1 :: u ++ v) := okW_app (u := p.1 :: u) (nonN_cons (by omega) n1) hv (by simp only [List.length_cons]; omega) (by simp only [sumZ]; omega)
        have hv0 := sumZ_nonneg hv
        have hr0 := sumZ_nonneg hr
        exact ih (by unfold meas at hf ⊢; simp only [List.length_cons] at hf; rw [l1]; omega) hu2
theorem nf_left {u v : List Int} (h : okW (u ++ v)) : SameSum (nf (u ++ v)) ((nf u).flatMap fun t => nf (t ++ v)) := by
  induction u with
  | nil => simp [nf]; exact SameSum.refl _
  | cons i x ih =>
    simp only [List.cons_append] at h ⊢
    have hi := h.2.1 i (by simp)
    have hxv : nonN (x ++ v) := fun z hz => h.2.1 z (List.mem_cons_of_mem _ hz)
    obtain ⟨hx, hv⟩ := nonN_app hxv
    have hs := h.2.2
    have hl := h.1
    simp only [sumZ, sumZ_append, List.length_cons, List.length_append] at hs hl
    have h2 := befS_same (a := i) (ih (okW_app hx hv (by omega) (by omega)))
    show SameSum (befS F i (nf (x ++ v))) ((befS F i (nf x)).flatMap _)
    refine h2.trans ?_
    simp only [befS, List.flatMap_assoc]
    refine SameSum.each fun t ht => ?_
    obtain ⟨l1, s1, n1, _⟩ := nf_word ht hx
    have ht2 : okW (i :: t ++ v) := okW_app (u := i :: t) (nonN_cons (by omega) n1) hv (by simp only [List.length_cons]; omega) (by simp only [sumZ]; omega)
    exact bef_left (by unfold meas F; omega) ht2
theorem nf_right {u v : List Int} (hv : nonN v) : SameSum (nf (u ++ v)) ((nf v).flatMap fun t => nf (u ++ t)) := by
  induction u with
  | nil =>
    simp only [List.nil_append]
    rw [show ((nf v).flatMap fun t => nf t) = nf v from nfS_adm fun x hx => (nf_word hx hv).2.2.2]
    exact SameSum.refl _
  | cons i x ih =>
    have h2 := befS_same (a := i) ih
    simp only [List.cons_append]
    show SameSum (befS F i (nf (x ++ v))) _
    refine h2.trans ?_
    simp only [befS, List.flatMap_assoc]
    exact SameSum.refl _

/-- all words of one list followed by words of another one -/
def prods (a b : List (List Int)) : List (List Int) := a.flatMap fun x => b.flatMap fun y => [x ++ y]
theorem prods_same {a a' b b' : List (List Int)} (ha : SameSum a a') (hb : SameSum b b') : SameSum (prods a b) (prods a' b') :=
  (ha.flat _).trans (SameSum.each fun x _ => hb.flat _)
theorem nfS_prods (a b : List (List Int)) : nfS (prods a b) = a.flatMap fun x => b.flatMap fun y => nf (x ++ y) := by
  simp only [nfS, prods, List.flatMap_assoc, List.flatMap_cons, List.flatMap_nil, List.append_nil]
theorem mem_prods {a b : List (List Int)} {z : List Int} (h : z ∈ prods a b) : ∃ x ∈ a, ∃ y ∈ b, z = x ++ y := by
  obtain ⟨x, hx, h⟩ := List.mem_flatMap.1 h
  obtain ⟨y, hy, h⟩ := List.mem_flatMap.1 h
  exact ⟨x, hx, y, hy, by simpa using h⟩
theorem nfS_mem {a : List (List Int)} {u : List Int} (h : u ∈ nfS a) (hn : ∀ x ∈ a, nonN x) : nonN u ∧ ∃ x ∈ a, u.length = x.length ∧ sumZ u = sumZ x := by
  obtain ⟨x, hx, h⟩ := List.mem_flatMap.1 h
  obtain ⟨h1, h2, h3, _⟩ := nf_word h (hn x hx)
  exact ⟨h3, x, hx, h1, h2⟩
/-- the form of the product of forms -/
theorem form_prods {a b : List (List Int)} (hab : ∀ x ∈ a, ∀ y ∈ b, okW (x ++ y)) (hb : ∀ y ∈ b, nonN y) : formL (prods (formL a) (formL b)) = formL (prods a b) := by
  have h1 : SameSum (nfS (prods (formL a) (formL b))) (nfS (prods (nfS a) (nfS b))) := nfS_same (prods_same (oddL_same _) (oddL_same _))
  have h2 : SameSum (nfS (prods (nfS a) (nfS b))) (nfS (prods a (nfS b))) := by
    rw [nfS_prods, nfS_prods, show nfS a = a.flatMap nf from rfl, List.flatMap_assoc]
    refine SameSum.each fun x hx => ?_
    refine (SameSum.swapL fun s y => nf (s ++ y)).trans ?_
    refine SameSum.each fun y hy => ?_
    obtain ⟨n1, y', hy', l1, s1⟩ := nfS_mem hy hb
    have ho := hab x hx y' hy'
    have hs := ho.2.2
    have hl := ho.1
    rw [sumZ_append] at hs
    rw [List.length_append] at hl
    exact (nf_left (okW_app (nonN_app ho.2.1).1 n1 (by omega) (by omega))).symm
  have h3 : SameSum (nfS (prods a (nfS b))) (nfS (prods a b)) := by
    rw [nfS_prods, nfS_prods]
    refine SameSum.each fun x hx => ?_
    rw [nfS, List.flatMap_assoc]
    exact SameSum.each fun y hy => (nf_right (hb y hy)).symm
  exact oddL_congr (h1.trans (h2.trans h3))
theorem flat_one (x : List Int) (b : List (List Int)) : (b.flatMap fun y => [x ++ y]) = b.map fun y => x ++ y := by
  induction b with
  | nil => rfl
  | cons y b ih => simp only [List.flatMap_cons, List.map_cons, List.singleton_append]; rw [ih]
/-- words of one length, each once, followed by words, each once -/
theorem prods_nodup {a b : List (List Int)} (ha : a.Nodup) (hb : b.Nodup) {l : Nat} (hl : ∀ x ∈ a, x.length = l) : (prods a b).Nodup := by
  induction a with
  | nil => exact List.nodup_nil
  | cons x a ih =>
    obtain ⟨h1, h2⟩ := List.nodup_cons.1 ha
    have ih := ih h2 fun y hy => hl y (List.mem_cons_of_mem _ hy)
    rw [prods, List.flatMap_cons]
    refine List.nodup_append.2 ⟨?_, ih, ?_⟩
    · rw [flat_one]
      exact List.Pairwise.map _ (fun _ _ h e => h (List.append_cancel_left e)) hb
    · intro u hu v hv e
      subst e
      obtain ⟨y, hy, hu⟩ := List.mem_flatMap.1 hu
      obtain ⟨x', hx', y', hy', e⟩ := mem_prods hv
      have hu : u = x ++ y := by simpa using hu
      rw [hu] at e
      have h3 := (List.append_inj e (by rw [hl x (by simp), hl x' (List.mem_cons_of_mem _ hx')])).1
      exact h1 (h3 ▸ hx')
theorem prods_len {a b : List (List Int)} (ha : a.Nodup) (hb : b.Nodup) {l : Nat} (hl : ∀ x ∈ a, x.length = l) (hab : ∀ x ∈ a, ∀ y ∈ b, okW (x ++ y)) : (prods a b).length ≤ 75582 := by
  refine Nat.le_trans (nodup_le (prods_nodup ha hb hl) (u := wordsU 7 11) fun z hz => ?_) wordsU_le
  obtain ⟨x, hx, y, hy, rfl⟩ := mem_prods hz
  have h := hab x hx y hy
  exact mem_wordsU h.1 h.2.1 (by have := h.2.2; omega)
end Go.Proofs.YtgmbbpaokcjnhaaGreatDoor
