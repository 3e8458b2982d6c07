/- The order in which factors 1/(1 - t^p) are taken does not matter, with numbers that go round at 2^64. -/
import Derived.Test.YtgoefodemjelaaaCount
namespace Go.Proofs.Ytgoefodemjelaaa
open Go.RowKit
set_option linter.unusedVariables false

/-- equal modulo 2^64 -/
def cg (a b : Int) : Prop := (a - b) % 18446744073709551616 = 0
theorem cg_refl (a : Int) : cg a a := by unfold cg; omega
theorem cg_symm {a b : Int} (h : cg a b) : cg b a := by unfold cg at *; omega
theorem cg_trans {a b c : Int} (h : cg a b) (k : cg b c) : cg a c := by unfold cg at *; omega
theorem cg_add {a b c d : Int} (h : cg a b) (k : cg c d) : cg (a + c) (b + d) := by unfold cg at *; omega
theorem cg_sub {a b c d : Int} (h : cg a b) (k : cg c d) : cg (a - c) (b - d) := by unfold cg at *; omega
theorem cg_wrap (a : Int) : cg (wrap64 a) a := by unfold cg wrap64; omega
def inR (a : Int) : Prop := -9223372036854775808 ≤ a ∧ a ≤ 9223372036854775807
theorem inR_wrap (a : Int) : inR (wrap64 a) := by unfold inR wrap64; omega
theorem eq_of_cg {a b : Int} (h : cg a b) (ha : inR a) (hb : inR b) : a = b := by unfold cg at h; unfold inR at ha hb; omega

/-- difference with the number p places before -/
def diffP (p : Nat) (f : Nat → Int) (j : Nat) : Int := f j - (if j < p then 0 else f (j - p))
theorem diffP_inj {p : Nat} (hp : 1 ≤ p) {f g : Nat → Int} {e : Nat} (h : ∀ j, j < e → cg (diffP p f j) (diffP p g j)) : ∀ j, j < e → cg (f j) (g j) := by
  intro j
  induction j using Nat.strongRecOn with
  | _ j ih =>
    intro hj
    have h1 := h j hj
    unfold diffP at h1
    by_cases hjp : j < p
    · rw [if_pos hjp, if_pos hjp] at h1
      simpa using h1
    · rw [if_neg hjp, if_neg hjp] at h1
      have h2 := cg_add h1 (ih (j - p) (by omega) (by omega))
      simpa using h2
theorem diffP_cg {p : Nat} {f g : Nat → Int} {e : Nat} (h : ∀ j, j < e → cg (f j) (g j)) : ∀ j, j < e → cg (diffP p f j) (diffP p g j) := by
  intro j hj
  unfold diffP
  refine cg_sub (h j hj) ?_
  split
  · exact cg_refl 0
  · exact h (j - p) (by omega)
theorem diffP_comm (p q : Nat) (f : Nat → Int) (j : Nat) : diffP p (diffP q f) j = diffP q (diffP p f) j := by
  unfold diffP
  by_cases h1 : j < p <;> by_cases h2 : j < q
  · simp [h1, h2]
  · simp [h1, h2, show j - q < p by omega]
  · simp [h1, h2, show j - p < q by omega]
  · rw [if_neg h1, if_neg h2, if_neg h1, if_neg h2]
    by_cases h3 : j - p < q
    · rw [if_pos h3, if_pos (show j - q < p by omega)]; omega
    · rw [if_neg h3, if_neg (show ¬ j - q < p by omega), show j - p - q = j - q - p by omega]; omega

/-- the list as a function -/
def at0 (xs : List Int) (j : Nat) : Int := xs.getD j 0
theorem at0_addP {p n : Nat} {xs : List Int} (hn : n < xs.length) (j : Nat) : at0 (addP p xs n) j = if j = n then wrap64 (at0 xs n + at0 xs (n - p)) else at0 xs j := by
  unfold at0 addP
  by_cases h : j = n
  · subst h
    simp [List.getD, hn]
  · rw [if_neg h]
    simp only [List.getD]
    rw [List.getElem?_set_ne (fun e => h e.symm)]
/-- what the whole loop has done, place by place -/
theorem addFrom_spec (p e : Nat) (hp : 1 ≤ p) (d n : Nat) (hd : e - n = d) (hn : p ≤ n) (xs ys : List Int) (hl : ys.length = e) (h1 : ∀ j, j < n → cg (diffP p (at0 ys) j) (at0 xs j)) (h2 : ∀ j, n ≤ j → at0 ys j = at0 xs j) :
    ∀ j, j < e → cg (diffP p (at0 (addFrom p e ys n)) j) (at0 xs j) := by
  induction d generalizing n ys with
  | zero =>
    intro j hj
    rw [addFrom_end (by omega)]
    exact h1 j (by omega)
  | succ d ih =>
    rw [addFrom_step (by omega)]
    refine ih (n + 1) (by omega) (by omega) (addP p ys n) (by rw [addP_length]; exact hl) (fun j hj => ?_) (fun j hj => ?_)
    · by_cases hjn : j = n
      · subst hjn
        unfold diffP
        rw [at0_addP (by omega), if_pos rfl, if_neg (by omega), at0_addP (by omega), if_neg (by omega), h2 j (Nat.le_refl _)]
        have h3 := cg_sub (cg_wrap (at0 xs j + at0 ys (j - p))) (cg_refl (at0 ys (j - p)))
        rwa [show at0 xs j + at0 ys (j - p) - at0 ys (j - p) = at0 xs j by omega] at h3
      · have h3 := h1 j (by omega)
        unfold diffP at h3 ⊢
        rw [at0_addP (by omega), if_neg hjn]
        by_cases hjp : j < p
        · rw [if_pos hjp] at h3 ⊢; exact h3
        · rw [if_neg hjp] at h3 ⊢
          rw [at0_addP (by omega), if_neg (by omega)]; exact h3
    · rw [at0_addP (by omega), if_neg (by omega)]
      exact h2 j (by omega)
theorem addFrom_diff (p e : Nat) (hp : 1 ≤ p) (xs : List Int) (hl : xs.length = e) : ∀ j, j < e → cg (diffP p (at0 (addFrom p e xs p)) j) (at0 xs j) := by
  refine addFrom_spec p e hp _ p rfl (Nat.le_refl _) xs xs hl (fun j hj => ?_) (fun j hj => rfl)
  unfold diffP
  rw [if_pos hj]
  simpa using cg_refl (at0 xs j)
def allR (xs : List Int) : Prop := ∀ x ∈ xs, inR x
theorem addP_allR {p n : Nat} {xs : List Int} (h : allR xs) : allR (addP p xs n) := by
  intro x hx
  rcases List.mem_or_eq_of_mem_set hx with h1 | rfl
  · exact h x h1
  · exact inR_wrap _
theorem addFold_allR (p : Nat) (ns : List Nat) (xs : List Int) (h : allR xs) : allR (ns.foldl (addP p) xs) := by
  induction ns generalizing xs with
  | nil => exact h
  | cons n ns ih => exact ih _ (addP_allR h)
theorem addFrom_allR {p e n : Nat} {xs : List Int} (h : allR xs) : allR (addFrom p e xs n) := addFold_allR _ _ _ h
theorem eq_of_at0 {xs ys : List Int} {e : Nat} (hx : xs.length = e) (hy : ys.length = e) (rx : allR xs) (ry : allR ys) (h : ∀ j, j < e → cg (at0 xs j) (at0 ys j)) : xs = ys := by
  apply List.ext_getElem (by omega)
  intro j h1 h2
  have h3 := h j (by omega)
  unfold at0 at h3
  rw [List.getD_eq_getElem?_getD, List.getD_eq_getElem?_getD, List.getElem?_eq_getElem h1, List.getElem?_eq_getElem h2] at h3
  exact eq_of_cg h3 (rx _ (List.getElem_mem _)) (ry _ (List.getElem_mem _))
/-- THE ORDER OF TWO FACTORS DOES NOT MATTER. -/
theorem addFrom_comm (p q e : Nat) (hp : 1 ≤ p) (hq : 1 ≤ q) (xs : List Int) (hl : xs.length = e) (hr : allR xs) : addFrom p e (addFrom q e xs q) p = addFrom q e (addFrom p e xs p) q := by
  have l1 : (addFrom q e xs q).length = e := by rw [addFrom_length]; exact hl
  have l2 : (addFrom p e xs p).length = e := by rw [addFrom_length]; exact hl
  refine eq_of_at0 (e := e) (by rw [addFrom_length]; exact l1) (by rw [addFrom_length]; exact l2) (addFrom_allR (addFrom_allR hr)) (addFrom_allR (addFrom_allR hr)) ?_
  have a1 := addFrom_diff p e hp _ l1
  have a2 := addFrom_diff q e hq _ hl
  have b1 := addFrom_diff q e hq _ l2
  have b2 := addFrom_diff p e hp _ hl
  have a3 : ∀ j, j < e → cg (diffP q (diffP p (at0 (addFrom p e (addFrom q e xs q) p))) j) (at0 xs j) := fun j hj => cg_trans (diffP_cg a1 j hj) (a2 j hj)
  have b3 : ∀ j, j < e → cg (diffP p (diffP q (at0 (addFrom q e (addFrom p e xs p) q))) j) (at0 xs j) := fun j hj => cg_trans (diffP_cg b1 j hj) (b2 j hj)
  refine diffP_inj hp (diffP_inj hq (fun j hj => ?_))
  refine cg_trans (a3 j hj) (cg_symm ?_)
  have := b3 j hj
  rwa [diffP_comm] at this
theorem addFrom_far {p e : Nat} {xs : List Int} (h : e ≤ p) : addFrom p e xs p = xs := addFrom_end h
end Go.Proofs.Ytgoefodemjelaaa
