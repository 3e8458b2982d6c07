/- Plain: the lexicographic order of lists of integers; strictly ascending lists of lists as sums over two elements. No function of the program is named here. -/
import Derived.Lib.Hide
import Derived.WalkKit
namespace Go.Proofs.YtoodhbafleemjaaGreat
open Go.RowKit
set_option linter.unusedVariables false

def cmpI (x y : Int) : Int := if x < y then -1 else if y < x then 1 else 0
/-- the lexicographic order, as a number -/
def cmpL : List Int → List Int → Int
  | [], [] => 0
  | [], _ :: _ => -1
  | _ :: _, [] => 1
  | x :: xs, y :: ys => if x < y then -1 else if y < x then 1 else cmpL xs ys
theorem cmpL_step {xs ys : List Int} {k : Nat} {x : Int} (hx : Hid (xs[k]? = some x)) (hy : Hid (ys[k]? = some x)) : cmpL (xs.drop k) (ys.drop k) = cmpL (xs.drop (k + 1)) (ys.drop (k + 1)) := by
  obtain ⟨h1, e1⟩ := List.getElem?_eq_some_iff.1 hx.out
  obtain ⟨h2, e2⟩ := List.getElem?_eq_some_iff.1 hy.out
  rw [List.drop_eq_getElem_cons h1, List.drop_eq_getElem_cons h2, e1, e2, cmpL, if_neg (by omega), if_neg (by omega)]
theorem cmpL_lt {xs ys : List Int} {k : Nat} {x y : Int} (hx : Hid (xs[k]? = some x)) (hy : Hid (ys[k]? = some y)) (h : x < y) : cmpL (xs.drop k) (ys.drop k) = -1 := by
  obtain ⟨h1, e1⟩ := List.getElem?_eq_some_iff.1 hx.out
  obtain ⟨h2, e2⟩ := List.getElem?_eq_some_iff.1 hy.out
  rw [List.drop_eq_getElem_cons h1, List.drop_eq_getElem_cons h2, e1, e2, cmpL, if_pos h]
theorem cmpL_gt {xs ys : List Int} {k : Nat} {x y : Int} (hx : Hid (xs[k]? = some x)) (hy : Hid (ys[k]? = some y)) (h : y < x) : cmpL (xs.drop k) (ys.drop k) = 1 := by
  obtain ⟨h1, e1⟩ := List.getElem?_eq_some_iff.1 hx.out
  obtain ⟨h2, e2⟩ := List.getElem?_eq_some_iff.1 hy.out
  rw [List.drop_eq_getElem_cons h1, List.drop_eq_getElem_cons h2, e1, e2, cmpL, if_neg (by omega), if_pos h]
theorem cmpL_end1 {xs ys : List Int} {k : Nat} (h1 : xs.length ≤ k) (h2 : k < ys.length) : cmpL (xs.drop k) (ys.drop k) = -1 := by
  rw [List.drop_of_length_le h1, List.drop_eq_getElem_cons h2]; rfl
theorem cmpL_end2 {xs ys : List Int} {k : Nat} (h1 : k < xs.length) (h2 : ys.length ≤ k) : cmpL (xs.drop k) (ys.drop k) = 1 := by
  rw [List.drop_of_length_le h2, List.drop_eq_getElem_cons h1]; rfl
theorem cmpL_end {xs ys : List Int} {k : Nat} (h1 : xs.length ≤ k) (h2 : ys.length ≤ k) : cmpL (xs.drop k) (ys.drop k) = 0 := by
  rw [List.drop_of_length_le h2, List.drop_of_length_le h1]; rfl

def ltL (xs ys : List Int) : Bool := decide (cmpL xs ys < 0)
/-- each list before the next -/
def risB : List (List Int) → Bool
  | [] => true
  | [_] => true
  | a :: b :: r => ltL a b && risB (b :: r)
theorem risB_step {xss : List (List Int)} {k : Nat} {x y : List Int} (hx : Hid (xss[k]? = some x)) (hy : Hid (xss[k + 1]? = some y)) : risB (xss.drop k) = (ltL x y && risB (xss.drop (k + 1))) := by
  obtain ⟨h1, e1⟩ := List.getElem?_eq_some_iff.1 hx.out
  obtain ⟨h2, e2⟩ := List.getElem?_eq_some_iff.1 hy.out
  rw [List.drop_eq_getElem_cons h1, List.drop_eq_getElem_cons h2, e1, e2, risB]
theorem risB_end {xss : List (List Int)} {k : Nat} (h : xss.length ≤ k + 1) : risB (xss.drop k) = true := by
  have : (xss.drop k).length ≤ 1 := by rw [List.length_drop]; omega
  match hd : xss.drop k with
  | [] => rfl
  | [_] => rfl
  | _ :: _ :: _ => rw [hd] at this; simp at this


/-! ### the order -/
theorem cmpL_self (x : List Int) : cmpL x x = 0 := by
  induction x with
  | nil => rfl
  | cons a x ih => simp [cmpL, ih]
theorem cmpL_neg (x y : List Int) : cmpL y x = - cmpL x y := by
  induction x generalizing y with
  | nil => cases y <;> rfl
  | cons a x ih =>
    cases y with
    | nil => rfl
    | cons b y =>
      simp only [cmpL]
      rcases Int.lt_trichotomy a b with h | h | h
      · rw [if_pos h, if_neg (by omega), if_pos h]; rfl
      · subst h; simp only [Int.lt_irrefl, if_false]; exact ih y
      · rw [if_pos h, if_neg (by omega), if_pos h]
theorem cmpL_eq {x y : List Int} : cmpL x y = 0 ↔ x = y := by
  constructor
  · induction x generalizing y with
    | nil => cases y with
      | nil => simp
      | cons b y => simp [cmpL]
    | cons a x ih =>
      cases y with
      | nil => simp [cmpL]
      | cons b y =>
        simp only [cmpL]
        intro h
        by_cases h1 : a < b
        · rw [if_pos h1] at h; omega
        · by_cases h2 : b < a
          · rw [if_neg h1, if_pos h2] at h; omega
          · rw [if_neg h1, if_neg h2] at h
            obtain rfl : a = b := by omega
            rw [ih h]
  · rintro rfl; exact cmpL_self x
theorem ltL_iff {x y : List Int} : ltL x y = true ↔ cmpL x y < 0 := by simp [ltL]
theorem ltL_irrefl (x : List Int) : ltL x x = false := by simp [ltL, cmpL_self]
theorem ltL_trans {x y z : List Int} (h1 : ltL x y = true) (h2 : ltL y z = true) : ltL x z = true := by
  rw [ltL_iff] at *
  induction x generalizing y z with
  | nil =>
    cases y with
    | nil => simp [cmpL] at h1
    | cons b y => cases z with
      | nil => simp [cmpL] at h2
      | cons c z => simp [cmpL]
  | cons a x ih =>
    cases y with
    | nil => simp [cmpL] at h1
    | cons b y =>
      cases z with
      | nil => simp [cmpL] at h2
      | cons c z =>
        simp only [cmpL] at *
        by_cases hab : a < b
        · by_cases hbc : b < c
          · rw [if_pos (show a < c by omega)]; omega
          · by_cases hcb : c < b
            · rw [if_neg hbc, if_pos hcb] at h2; omega
            · rw [if_pos (show a < c by omega)]; omega
        · by_cases hba : b < a
          · rw [if_neg hab, if_pos hba] at h1; omega
          · rw [if_neg hab, if_neg hba] at h1
            obtain rfl : a = b := by omega
            by_cases hac : a < c
            · rw [if_pos hac]; omega
            · by_cases hca : c < a
              · rw [if_neg hac, if_pos hca] at h2; omega
              · rw [if_neg hac, if_neg hca] at h2 ⊢
                exact ih h1 h2
theorem ltL_tri (x y : List Int) : ltL x y = true ∨ x = y ∨ ltL y x = true := by
  simp only [ltL_iff]
  have h := cmpL_neg x y
  rcases Int.lt_trichotomy (cmpL x y) 0 with h1 | h1 | h1
  · exact .inl h1
  · exact .inr (.inl (cmpL_eq.1 h1))
  · exact .inr (.inr (by omega))
theorem ltL_asymm {x y : List Int} (h : ltL x y = true) : ltL y x = false := by
  cases h2 : ltL y x
  · rfl
  · have := ltL_trans h h2; rw [ltL_irrefl] at this; cases this

/-! ### strictly ascending lists -/
def Asc (s : List (List Int)) : Prop := s.Pairwise fun x y => ltL x y = true
theorem asc_risB {s : List (List Int)} : risB s = true ↔ Asc s := by
  induction s with
  | nil => simp [risB, Asc]
  | cons a s ih =>
    cases s with
    | nil => simp [risB, Asc]
    | cons b r =>
      simp only [risB, Bool.and_eq_true, ih]
      unfold Asc
      constructor
      · rintro ⟨h1, h2⟩
        refine List.pairwise_cons.2 ⟨fun z hz => ?_, h2⟩
        rcases List.mem_cons.1 hz with rfl | hz
        · exact h1
        · exact ltL_trans h1 ((List.pairwise_cons.1 h2).1 z hz)
      · intro h
        obtain ⟨h1, h2⟩ := List.pairwise_cons.1 h
        exact ⟨h1 b (by simp), h2⟩
theorem asc_nodup {s : List (List Int)} (h : Asc s) : s.Nodup :=
  h.imp fun {a b} hab e => by subst e; rw [ltL_irrefl] at hab; cases hab
theorem asc_count {s : List (List Int)} (h : Asc s) (z : List Int) : s.count z = if z ∈ s then 1 else 0 := by
  by_cases hz : z ∈ s
  · rw [if_pos hz]
    have h1 := List.nodup_iff_count.1 (asc_nodup h) z
    have h2 := List.count_pos_iff.2 hz
    omega
  · rw [if_neg hz, List.count_eq_zero.2 hz]
theorem asc_ext {s t : List (List Int)} (hs : Asc s) (ht : Asc t) (h : ∀ z, z ∈ s ↔ z ∈ t) : s = t := by
  induction s generalizing t with
  | nil =>
    cases t with
    | nil => rfl
    | cons b t => exact absurd ((h b).2 (by simp)) (by simp)
  | cons a s ih =>
    cases t with
    | nil => exact absurd ((h a).1 (by simp)) (by simp)
    | cons b t =>
      obtain ⟨hs1, hs2⟩ := List.pairwise_cons.1 hs
      obtain ⟨ht1, ht2⟩ := List.pairwise_cons.1 ht
      have hab : a = b := by
        have h1 := (h a).1 (by simp)
        have h2 := (h b).2 (by simp)
        rcases List.mem_cons.1 h1 with e | h1
        · exact e
        · rcases List.mem_cons.1 h2 with e | h2
          · exact e.symm
          · have := ltL_trans (ht1 a h1) (hs1 b h2)
            rw [ltL_irrefl] at this; cases this
      subst hab
      congr 1
      refine ih hs2 ht2 fun z => ?_
      constructor
      · intro hz
        rcases List.mem_cons.1 ((h z).1 (List.mem_cons_of_mem _ hz)) with e | h1
        · subst e; have := hs1 z hz; rw [ltL_irrefl] at this; cases this
        · exact h1
      · intro hz
        rcases List.mem_cons.1 ((h z).2 (List.mem_cons_of_mem _ hz)) with e | h1
        · subst e; have := ht1 z hz; rw [ltL_irrefl] at this; cases this
        · exact h1

/-! ### sums over two elements: a list stands for the words that occur in it an odd number of times -/
/-- an odd number of times -/
def oddIn (s : List (List Int)) (z : List Int) : Bool := s.count z % 2 == 1
/-- the same sum -/
def SameSum (s t : List (List Int)) : Prop := ∀ z, s.count z % 2 = t.count z % 2
theorem SameSum.refl (s : List (List Int)) : SameSum s s := fun _ => rfl
theorem SameSum.symm {s t : List (List Int)} (h : SameSum s t) : SameSum t s := fun z => (h z).symm
theorem SameSum.trans {s t u : List (List Int)} (h : SameSum s t) (k : SameSum t u) : SameSum s u := fun z => (h z).trans (k z)
theorem SameSum.append {s t u v : List (List Int)} (h : SameSum s t) (k : SameSum u v) : SameSum (s ++ u) (t ++ v) := fun z => by
  have h1 := h z; have h2 := k z
  rw [List.count_append, List.count_append]; omega
theorem SameSum.of_perm {s t : List (List Int)} (h : s.Perm t) : SameSum s t := fun z => by rw [h.count_eq]
theorem SameSum.twice (s t : List (List Int)) : SameSum (s ++ (t ++ t)) s := fun z => by
  rw [List.count_append, List.count_append]; omega
theorem asc_same {s t : List (List Int)} (hs : Asc s) (ht : Asc t) (h : SameSum s t) : s = t := by
  refine asc_ext hs ht fun z => ?_
  have h1 := h z
  rw [asc_count hs, asc_count ht] at h1
  by_cases h2 : z ∈ s <;> by_cases h3 : z ∈ t <;> simp [h2, h3] at h1 ⊢

/-- a word put into an ascending list, or taken out of it -/
def insX (x : List Int) : List (List Int) → List (List Int)
  | [] => [x]
  | y :: r => if ltL x y then x :: y :: r else if ltL y x then y :: insX x r else r
theorem insX_mem {x y : List Int} {s : List (List Int)} (h : y ∈ insX x s) : y = x ∨ y ∈ s := by
  induction s with
  | nil => simpa [insX] using h
  | cons b s ih =>
    rw [insX] at h
    split at h
    · rcases List.mem_cons.1 h with h | h
      · exact .inl h
      · exact .inr h
    · split at h
      · rcases List.mem_cons.1 h with h | h
        · exact .inr (by simp [h])
        · rcases ih h with h | h
          · exact .inl h
          · exact .inr (List.mem_cons_of_mem _ h)
      · exact .inr (List.mem_cons_of_mem _ h)
theorem insX_asc {x : List Int} {s : List (List Int)} (h : Asc s) : Asc (insX x s) := by
  induction s with
  | nil => simp [insX, Asc]
  | cons b s ih =>
    obtain ⟨h1, h2⟩ := List.pairwise_cons.1 h
    rw [insX]
    split
    · rename_i hlt
      refine List.pairwise_cons.2 ⟨fun z hz => ?_, h⟩
      rcases List.mem_cons.1 hz with rfl | hz
      · exact hlt
      · exact ltL_trans hlt (h1 z hz)
    · split
      · rename_i hlt
        refine List.pairwise_cons.2 ⟨fun z hz => ?_, ih h2⟩
        rcases insX_mem hz with rfl | hz
        · exact hlt
        · exact h1 z hz
      · exact h2
theorem insX_same (x : List Int) (s : List (List Int)) : SameSum (insX x s) (x :: s) := by
  induction s with
  | nil => exact SameSum.refl _
  | cons b s ih =>
    rw [insX]
    split
    · exact SameSum.refl _
    · split
      · intro z
        have := ih z
        simp only [List.count_cons] at this ⊢
        omega
      · rename_i h1 h2
        have : x = b := by
          rcases ltL_tri x b with h | h | h
          · exact absurd h h1
          · exact h
          · exact absurd h h2
        subst this
        intro z
        simp only [List.count_cons]
        omega
/-- the ascending list of the words that occur an odd number of times -/
def oddL (s : List (List Int)) : List (List Int) := s.foldr insX []
theorem oddL_asc (s : List (List Int)) : Asc (oddL s) := by
  induction s with
  | nil => simp [oddL, Asc]
  | cons a s ih => exact insX_asc ih
theorem oddL_same (s : List (List Int)) : SameSum (oddL s) s := by
  induction s with
  | nil => exact SameSum.refl _
  | cons a s ih =>
    refine (insX_same a (oddL s)).trans fun z => ?_
    have := ih z
    simp only [List.count_cons]
    omega
theorem oddL_of_asc {s : List (List Int)} (h : Asc s) : oddL s = s := asc_same (oddL_asc s) h (oddL_same s)
theorem oddL_congr {s t : List (List Int)} (h : SameSum s t) : oddL s = oddL t := asc_same (oddL_asc s) (oddL_asc t) ((oddL_same s).trans (h.trans (oddL_same t).symm))
theorem oddL_eq {s t : List (List Int)} (h : Asc t) (k : SameSum t s) : t = oddL s := asc_same h (oddL_asc s) (k.trans (oddL_same s).symm)
theorem oddL_len (s : List (List Int)) : (oddL s).length ≤ s.length := by
  induction s with
  | nil => simp [oddL]
  | cons a s ih =>
    have h : ∀ t : List (List Int), (insX a t).length ≤ t.length + 1 := by
      intro t
      induction t with
      | nil => simp [insX]
      | cons b t ih =>
        rw [insX]
        split
        · simp
        · split
          · simp; omega
          · simp; omega
    have := h (oddL s)
    show (insX a (oddL s)).length ≤ _
    simp; omega
theorem oddL_mem {s : List (List Int)} {z : List Int} (h : z ∈ oddL s) : z ∈ s := by
  induction s with
  | nil => simp [oddL] at h
  | cons a s ih =>
    rcases insX_mem (show z ∈ insX a (oddL s) from h) with h | h
    · simp [h]
    · exact List.mem_cons_of_mem _ (ih h)

/-! ### the groups of a sorted list -/
def SortedL (ss : List (List Int)) : Prop := ss.Pairwise fun a b => ltL b a = false
theorem lt_of_le_ne {x y : List Int} (h : ltL y x = false) (hne : x ≠ y) : ltL x y = true := by
  rcases ltL_tri x y with h1 | h1 | h1
  · exact h1
  · exact absurd h1 hne
  · rw [h1] at h; cases h
theorem lt_le_trans {x y z : List Int} (h1 : ltL x y = true) (h2 : ltL z y = false) : ltL x z = true := by
  rcases ltL_tri y z with h | h | h
  · exact ltL_trans h1 h
  · exact h ▸ h1
  · rw [h] at h2; cases h2
structure OddInv (ss : List (List Int)) (i : Nat) (out : List (List Int)) : Prop where
  bound : ∀ x ∈ ss.take i, ∀ y ∈ ss.drop i, ltL x y = true
  asc : Asc out
  same : SameSum out (ss.take i)
  mem : ∀ x ∈ out, x ∈ ss.take i
theorem OddInv.start (ss : List (List Int)) : OddInv ss 0 [] := ⟨by simp, List.Pairwise.nil, SameSum.refl _, by simp⟩
theorem take_rep {ss : List (List Int)} {x : List Int} {i : Nat} : ∀ d : Nat, (∀ j, i ≤ j → j < i + d → ss[j]? = some x) → ss.take (i + d) = ss.take i ++ List.replicate d x := by
  intro d
  induction d with
  | zero => intro _; simp
  | succ d ih =>
    intro h
    rw [← Nat.add_assoc, List.take_add_one, ih (fun j h1 h2 => h j h1 (by omega)), h (i + d) (by omega) (by omega)]
    simp [List.replicate_succ']
theorem OddInv.step {ss : List (List Int)} {i d : Nat} {out : List (List Int)} {x : List Int} (hs : SortedL ss) (h : OddInv ss i out) (hd : 0 < d) (hk : i + d ≤ ss.length)
    (heq : ∀ j, i ≤ j → j < i + d → ss[j]? = some x) (hend : i + d = ss.length ∨ ∃ y, ss[i + d]? = some y ∧ x ≠ y) : OddInv ss (i + d) (if d % 2 = 1 then out ++ [x] else out) := by
  have htk := take_rep d heq
  have hxi : x ∈ ss.drop i := by
    have := heq i (Nat.le_refl _) (by omega)
    exact List.mem_of_getElem? (i := 0) (by rw [List.getElem?_drop]; exact this)
  have hb : ∀ y ∈ ss.drop (i + d), ltL x y = true := by
    intro y hy
    rcases hend with he | ⟨z, hz, hne⟩
    · rw [List.drop_of_length_le (by omega)] at hy; cases hy
    · have hzx : ltL x z = true := by
        refine lt_of_le_ne ?_ hne
        obtain ⟨h1, e1⟩ := List.getElem?_eq_some_iff.1 (heq i (Nat.le_refl _) (by omega))
        obtain ⟨h2, e2⟩ := List.getElem?_eq_some_iff.1 hz
        have := (List.pairwise_iff_getElem.1 hs) i (i + d) h1 h2 (by omega)
        rwa [e1, e2] at this
      obtain ⟨h2, e2⟩ := List.getElem?_eq_some_iff.1 hz
      rw [List.drop_eq_getElem_cons h2, e2] at hy
      rcases List.mem_cons.1 hy with rfl | hy
      · exact hzx
      · refine lt_le_trans hzx ?_
        obtain ⟨j, hj, rfl⟩ := List.getElem_of_mem hy
        rw [List.getElem_drop]
        have := (List.pairwise_iff_getElem.1 hs) (i + d) (i + d + 1 + j) h2 (by rw [List.length_drop] at hj; omega) (by omega)
        rwa [e2] at this
  have hdrop : ∀ y ∈ ss.drop (i + d), y ∈ ss.drop i := fun y hy => by rw [← List.drop_drop] at hy; exact List.mem_of_mem_drop hy
  refine ⟨fun a ha y hy => ?_, ?_, fun z => ?_, fun a ha => ?_⟩
  · rw [htk] at ha
    rcases List.mem_append.1 ha with ha | ha
    · exact h.bound a ha y (hdrop y hy)
    · obtain ⟨_, rfl⟩ := List.mem_replicate.1 ha; exact hb y hy
  · split
    · refine List.pairwise_append.2 ⟨h.asc, by simp, fun a ha b hb' => ?_⟩
      rw [List.mem_singleton.1 hb']
      exact h.bound a (h.mem a ha) x hxi
    · exact h.asc
  · have h1 := h.same z
    rw [htk, List.count_append, List.count_replicate]
    by_cases hp : d % 2 = 1
    · rw [if_pos hp, List.count_append, List.count_singleton]
      by_cases hz : (x == z) = true
      · rw [if_pos hz, if_pos hz]; omega
      · rw [if_neg hz, if_neg hz]; omega
    · rw [if_neg hp]
      by_cases hz : (x == z) = true
      · rw [if_pos hz]; omega
      · rw [if_neg hz]; omega
  · rw [htk]
    split at ha
    · rcases List.mem_append.1 ha with ha | ha
      · exact List.mem_append_left _ (h.mem a ha)
      · exact List.mem_append_right _ (by rw [List.mem_singleton.1 ha]; exact List.mem_replicate.2 ⟨by omega, rfl⟩)
    · exact List.mem_append_left _ (h.mem a ha)
theorem OddInv.end_ {ss out : List (List Int)} (h : OddInv ss ss.length out) : out = oddL ss := by
  have := h.same
  rw [List.take_of_length_le (Nat.le_refl _)] at this
  exact oddL_eq h.asc this

/-! ### two ascending lists, one merged with the other -/
structure MergeInv (a b : List (List Int)) (i k : Nat) (out : List (List Int)) : Prop where
  asc : Asc out
  same : SameSum out (a.take i ++ b.take k)
  la : ∀ x ∈ out, ∀ y ∈ a.drop i, ltL x y = true
  lb : ∀ x ∈ out, ∀ y ∈ b.drop k, ltL x y = true
theorem MergeInv.start (a b : List (List Int)) : MergeInv a b 0 0 [] := ⟨List.Pairwise.nil, by simpa using SameSum.refl _, by simp, by simp⟩
theorem asc_after {a : List (List Int)} (ha : Asc a) {i : Nat} {x : List Int} (hx : a[i]? = some x) : ∀ y ∈ a.drop (i + 1), ltL x y = true := by
  intro y hy
  obtain ⟨h1, e1⟩ := List.getElem?_eq_some_iff.1 hx
  obtain ⟨j, hj, rfl⟩ := List.getElem_of_mem hy
  rw [List.getElem_drop]
  have := (List.pairwise_iff_getElem.1 ha) i (i + 1 + j) h1 (by rw [List.length_drop] at hj; omega) (by omega)
  rwa [e1] at this
theorem asc_from {a : List (List Int)} (ha : Asc a) {i : Nat} {x z : List Int} (hx : a[i]? = some x) (hz : ltL z x = true) : ∀ y ∈ a.drop i, ltL z y = true := by
  intro y hy
  obtain ⟨h1, e1⟩ := List.getElem?_eq_some_iff.1 hx
  rw [List.drop_eq_getElem_cons h1, e1] at hy
  rcases List.mem_cons.1 hy with rfl | hy
  · exact hz
  · exact ltL_trans hz (asc_after ha hx y hy)
theorem drop_mem_succ {a : List (List Int)} {i : Nat} {y : List Int} (hy : y ∈ a.drop (i + 1)) : y ∈ a.drop i := by rw [← List.drop_drop] at hy; exact List.mem_of_mem_drop hy
theorem mem_drop_at {a : List (List Int)} {i : Nat} {x : List Int} (hx : a[i]? = some x) : x ∈ a.drop i := List.mem_of_getElem? (i := 0) (by rw [List.getElem?_drop]; exact hx)
theorem MergeInv.left {a b : List (List Int)} {i k : Nat} {out : List (List Int)} {x : List Int} (h : MergeInv a b i k out) (ha : Asc a) (hb : Asc b) (hx : a[i]? = some x) (hlt : b.length ≤ k ∨ ∃ y, b[k]? = some y ∧ ltL x y = true) : MergeInv a b (i + 1) k (out ++ [x]) := by
  refine ⟨List.pairwise_append.2 ⟨h.asc, by simp, fun u hu v hv => by rw [List.mem_singleton.1 hv]; exact h.la u hu x (mem_drop_at hx)⟩, fun z => ?_, fun u hu y hy => ?_, fun u hu y hy => ?_⟩
  · have := h.same z
    rw [List.take_add_one, hx]
    simp only [List.count_append, Option.toList_some] at this ⊢
    omega
  · rcases List.mem_append.1 hu with hu | hu
    · exact h.la u hu y (drop_mem_succ hy)
    · rw [List.mem_singleton.1 hu]; exact asc_after ha hx y hy
  · rcases List.mem_append.1 hu with hu | hu
    · exact h.lb u hu y hy
    · rw [List.mem_singleton.1 hu]
      rcases hlt with hl | ⟨w, hw, hlt⟩
      · rw [List.drop_of_length_le hl] at hy; cases hy
      · exact asc_from hb hw hlt y hy
theorem MergeInv.right {a b : List (List Int)} {i k : Nat} {out : List (List Int)} {x : List Int} (h : MergeInv a b i k out) (ha : Asc a) (hb : Asc b) (hx : b[k]? = some x) (hlt : a.length ≤ i ∨ ∃ y, a[i]? = some y ∧ ltL x y = true) : MergeInv a b i (k + 1) (out ++ [x]) := by
  refine ⟨List.pairwise_append.2 ⟨h.asc, by simp, fun u hu v hv => by rw [List.mem_singleton.1 hv]; exact h.lb u hu x (mem_drop_at hx)⟩, fun z => ?_, fun u hu y hy => ?_, fun u hu y hy => ?_⟩
  · have := h.same z
    rw [List.take_add_one (l := b), hx]
    simp only [List.count_append, Option.toList_some] at this ⊢
    omega
  · rcases List.mem_append.1 hu with hu | hu
    · exact h.la u hu y hy
    · rw [List.mem_singleton.1 hu]
      rcases hlt with hl | ⟨w, hw, hlt⟩
      · rw [List.drop_of_length_le hl] at hy; cases hy
      · exact asc_from ha hw hlt y hy
  · rcases List.mem_append.1 hu with hu | hu
    · exact h.lb u hu y (drop_mem_succ hy)
    · rw [List.mem_singleton.1 hu]; exact asc_after hb hx y hy
theorem MergeInv.both {a b : List (List Int)} {i k : Nat} {out : List (List Int)} {x : List Int} (h : MergeInv a b i k out) (hx : a[i]? = some x) (hy : b[k]? = some x) : MergeInv a b (i + 1) (k + 1) out := by
  refine ⟨h.asc, fun z => ?_, fun u hu y hy => h.la u hu y (drop_mem_succ hy), fun u hu y hy => h.lb u hu y (drop_mem_succ hy)⟩
  have := h.same z
  rw [List.take_add_one, hx, List.take_add_one, hy]
  simp only [List.count_append, Option.toList_some] at this ⊢
  omega
theorem MergeInv.end_ {a b out : List (List Int)} {i k : Nat} (h : MergeInv a b i k out) (hi : a.length ≤ i) (hk : b.length ≤ k) : out = oddL (a ++ b) := by
  have := h.same
  rw [List.take_of_length_le hi, List.take_of_length_le hk] at this
  exact oddL_eq h.asc this
end Go.Proofs.YtoodhbafleemjaaGreat
