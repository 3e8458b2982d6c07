/- Plain: the differential of the lambda algebra. -/
import Derived.Test.YthaokhjkibbplaaMul
namespace Go.Proofs.Ythaokhjkibbplaa
open Go.RowKit
set_option linter.unusedVariables false

def genC (n : Int) (j : Nat) : Bool := parB (n - (j + 1)) (j + 1)
/-- the words of the differential of a generator, the first m places looked at -/
def genTo (n : Int) (m : Nat) : List (List Int) := ((List.range m).filter (genC n)).map fun (j : Nat) => [n - (j + 1), (j : Int)]
/-- the number of places of a generator -/
def genM (n : Int) : Nat := n.toNat / 2
def genW (n : Int) : List (List Int) := genTo n (genM n)
theorem genTo_yes {n : Int} {m : Nat} (h : genC n m = true) : genTo n (m + 1) = genTo n m ++ [[n - (m + 1), (m : Int)]] := by
  simp [genTo, List.range_succ, List.filter_append, h]
theorem genTo_no {n : Int} {m : Nat} (h : genC n m = false) : genTo n (m + 1) = genTo n m := by
  simp [genTo, List.range_succ, List.filter_append, h]
theorem genTo_len (n : Int) (m : Nat) : (genTo n m).length ≤ m := by
  rw [genTo, List.length_map]
  exact Nat.le_trans (List.length_filter_le _ _) (by rw [List.length_range]; exact Nat.le_refl _)
theorem genTo_mem {n : Int} {m : Nat} {l : List Int} (h : l ∈ genTo n m) (hm : m ≤ genM n) (hn : 0 ≤ n) : l.length = 2 ∧ nonN l ∧ sumZ l = n - 1 := by
  obtain ⟨j, hj, rfl⟩ := List.mem_map.1 h
  have h1 := List.mem_range.1 (List.mem_filter.1 hj).1
  unfold genM at hm
  refine ⟨rfl, ?_, by simp [sumZ]; omega⟩
  intro z hz
  simp only [List.mem_cons, List.not_mem_nil, or_false] at hz
  omega
theorem genW_mem {n : Int} {l : List Int} (h : l ∈ genW n) (hn : 0 ≤ n) : l.length = 2 ∧ nonN l ∧ sumZ l = n - 1 := genTo_mem h (Nat.le_refl _) hn

/-- a list of words in the place k of a word -/
def putAt (x : List Int) (k : Nat) (L : List (List Int)) : List (List Int) := L.flatMap fun l => [x.take k ++ l ++ x.drop (k + 1)]
theorem putAt_append (x : List Int) (k : Nat) (L M : List (List Int)) : putAt x k (L ++ M) = putAt x k L ++ putAt x k M := by simp [putAt]
theorem putAt_one (x : List Int) (k : Nat) (l : List Int) : putAt x k [l] = [x.take k ++ l ++ x.drop (k + 1)] := by simp [putAt]
theorem putAt_len (x : List Int) (k : Nat) (L : List (List Int)) : (putAt x k L).length = L.length := by
  unfold putAt
  induction L with
  | nil => rfl
  | cons l L ih => rw [List.flatMap_cons, List.length_append, ih]; simp; omega
def dAt (x : List Int) (k : Nat) : List (List Int) := putAt x k (genW (x[k]?.getD 0))
def dTo (x : List Int) (m : Nat) : List (List Int) := (List.range m).flatMap (dAt x)
def dWord (x : List Int) : List (List Int) := dTo x x.length
def dAll (s : List (List Int)) : List (List Int) := s.flatMap dWord
theorem dTo_succ {x : List Int} {k : Nat} {n : Int} (h : x[k]? = some n) : dTo x (k + 1) = dTo x k ++ putAt x k (genW n) := by
  simp [dTo, List.range_succ, dAt, h]
theorem dAll_succ {s : List (List Int)} {k : Nat} {x : List Int} (h : s[k]? = some x) : dAll (s.take (k + 1)) = dAll (s.take k) ++ dTo x x.length := by
  rw [List.take_add_one, h]
  simp [dAll, dWord]
theorem sumZ_at : ∀ {x : List Int} {k : Nat} {n : Int}, x[k]? = some n → sumZ (x.take k) + n + sumZ (x.drop (k + 1)) = sumZ x
  | [], k, n, h => by simp at h
  | a :: r, 0, n, h => by simp at h; subst h; simp [sumZ]
  | a :: r, k + 1, n, h => by
    have := sumZ_at (x := r) (k := k) (n := n) (by simpa using h)
    simp only [List.take_succ_cons, List.drop_succ_cons, sumZ]
    omega
/-- what a place of a word gives is a word -/
theorem put_okW {x : List Int} {k : Nat} {n : Int} (h : x[k]? = some n) (hx : okW x) (hl : x.length ≤ 6) {l : List Int} (h1 : l.length = 2) (h2 : nonN l) (h3 : sumZ l = n - 1) : okW (x.take k ++ l ++ x.drop (k + 1)) := by
  have hk := (List.getElem?_eq_some_iff.1 h).1
  have hs := sumZ_at h
  refine ⟨?_, ?_, ?_⟩
  · simp only [List.length_append, List.length_take, List.length_drop]; omega
  · exact nonN_mk (nonN_mk (fun z hz => hx.2.1 z (List.mem_of_mem_take hz)) h2) (fun z hz => hx.2.1 z (List.mem_of_mem_drop hz))
  · rw [sumZ_append, sumZ_append]
    have := hx.2.2
    omega
theorem at_nonN {x : List Int} {k : Nat} {n : Int} (h : x[k]? = some n) (hx : okW x) : 0 ≤ n ∧ n ≤ 11 := by
  have h0 := hx.2.1 n (List.mem_of_getElem? h)
  have hs := sumZ_at h
  have h1 := sumZ_nonneg (w := x.take k) fun z hz => hx.2.1 z (List.mem_of_mem_take hz)
  have h2 := sumZ_nonneg (w := x.drop (k + 1)) fun z hz => hx.2.1 z (List.mem_of_mem_drop hz)
  have := hx.2.2
  omega
theorem putAt_okW {x : List Int} {k : Nat} {n : Int} (h : x[k]? = some n) (hx : okW x) (hl : x.length ≤ 6) : ∀ z ∈ putAt x k (genW n), okW z := by
  intro z hz
  obtain ⟨l, hl2, hz⟩ := List.mem_flatMap.1 hz
  obtain ⟨h1, h2, h3⟩ := genW_mem hl2 (at_nonN h hx).1
  rw [List.mem_singleton.1 hz]
  exact put_okW h hx hl h1 h2 h3
theorem dTo_okW {x : List Int} (hx : okW x) (hl : x.length ≤ 6) {m : Nat} (hm : m ≤ x.length) : ∀ z ∈ dTo x m, okW z := by
  induction m with
  | zero => intro z hz; simp [dTo] at hz
  | succ m ih =>
    obtain ⟨n, hn⟩ : ∃ n, x[m]? = some n := ⟨_, List.getElem?_eq_getElem (by omega)⟩
    rw [dTo_succ hn]
    intro z hz
    rcases List.mem_append.1 hz with hz | hz
    · exact ih (by omega) z hz
    · exact putAt_okW hn hx hl z hz
theorem dTo_len {x : List Int} (hx : okW x) {m : Nat} (hm : m ≤ x.length) : (dTo x m).length ≤ m * 5 := by
  induction m with
  | zero => simp [dTo]
  | succ m ih =>
    obtain ⟨n, hn⟩ : ∃ n, x[m]? = some n := ⟨_, List.getElem?_eq_getElem (by omega)⟩
    rw [dTo_succ hn, List.length_append, putAt_len]
    have h1 := ih (by omega)
    have h2 := genTo_len n (genM n)
    have h3 := at_nonN hn hx
    unfold genW genM at *
    omega
theorem dAll_okW {s : List (List Int)} (hs : ∀ x ∈ s, okW x ∧ x.length ≤ 6) : ∀ z ∈ dAll s, okW z := by
  intro z hz
  obtain ⟨x, hx, hz⟩ := List.mem_flatMap.1 hz
  exact dTo_okW (hs x hx).1 (hs x hx).2 (Nat.le_refl _) z hz
theorem dAll_len {s : List (List Int)} (hs : ∀ x ∈ s, okW x ∧ x.length ≤ 6) : (dAll s).length ≤ s.length * 30 := by
  induction s with
  | nil => simp [dAll]
  | cons x s ih =>
    have h1 := ih fun y hy => hs y (List.mem_cons_of_mem _ hy)
    have h2 := dTo_len (hs x (by simp)).1 (Nat.le_refl _)
    have h3 := (hs x (by simp)).2
    rw [dAll, List.flatMap_cons, List.length_append, List.length_cons, dWord]
    rw [dAll] at h1
    omega

def difO (a : List (List Int)) : Int × List (List Int) :=
  if isLB a then if !a.isEmpty && decide ((a.headD []).length = 7) then (3, []) else (0, formL (dAll a)) else (1, [])
theorem difO_bad {a : List (List Int)} (h : isLB a = false) : difO a = (1, []) := by simp [difO, h]
theorem difO_lim {a : List (List Int)} (h : isLB a = true) (h2 : a.isEmpty = false) (h3 : (a.headD []).length = 7) : difO a = (3, []) := by simp only [difO, h, h2, h3]; rfl
theorem difO_ok {a : List (List Int)} (h : isLB a = true) (h2 : a.isEmpty = true ∨ (a.headD []).length ≠ 7) : difO a = (0, formL (dAll a)) := by
  unfold difO
  rw [if_pos h, if_neg]
  rcases h2 with h2 | h2
  · simp [h2]
  · rw [decide_eq_false h2]; simp
theorem isLB_dif {a : List (List Int)} (h : isLB a = true) (h2 : a.isEmpty = true ∨ (a.headD []).length ≠ 7) : ∀ x ∈ a, okW x ∧ x.length ≤ 6 := by
  intro x hx
  obtain ⟨h3, h4, _⟩ := isLB_all h x hx
  rcases h2 with h2 | h2
  · rw [List.isEmpty_iff.1 h2] at hx; cases hx
  · exact ⟨h3, by have := h3.1; omega⟩
theorem difO_bounds (a : List (List Int)) : (difO a).2.length ≤ 75582 ∧ totalL (difO a).2 ≤ 529074 := by
  unfold difO
  split
  · rename_i h
    split
    · simp [totalL]
    · rename_i h2
      refine formL_bounds (dAll_okW (isLB_dif h ?_))
      cases he : a.isEmpty
      · right; simpa [he] using h2
      · exact .inl rfl
  · simp [totalL]
end Go.Proofs.Ythaokhjkibbplaa
