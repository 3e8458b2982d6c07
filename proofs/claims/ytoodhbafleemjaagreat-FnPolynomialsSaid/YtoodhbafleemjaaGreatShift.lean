/- ShiftSeries on both sides. -/
import Derived.Test.YtoodhbafleemjaaGreatBase
import Derived.Test.YtoodhbafleemjaaGreatApp
namespace Go.Proofs.YtoodhbafleemjaaGreat
open Go.RowKit
set_option linter.unusedVariables false

/-- the list moved by k, its first m numbers laid -/
def shiftAt (xs : List Int) (k m : Nat) : List Int := (List.range xs.length).map (fun j => if j < m ∧ k ≤ j then xs.getD (j - k) 0 else 0)
theorem shiftAt_length (xs : List Int) (k m : Nat) : (shiftAt xs k m).length = xs.length := by simp [shiftAt]
theorem shiftAt_start (xs : List Int) (k : Nat) : shiftAt xs k k = List.replicate xs.length 0 := by
  apply List.ext_getElem (by simp [shiftAt])
  intro j h1 h2
  simp [shiftAt]; omega
theorem shiftAt_step {xs : List Int} {k m : Nat} {x : Int} (hkm : k ≤ m) (hx : Hid (xs[m - k]? = some x)) : (shiftAt xs k m).set m x = shiftAt xs k (m + 1) := by
  apply List.ext_getElem (by simp [shiftAt])
  intro j h1 h2
  rw [List.getElem_set]
  split
  · subst j
    simp [shiftAt, hkm, hx.out]
  · rename_i hne
    simp only [shiftAt, List.getElem_map, List.getElem_range]
    have : (j < m ∧ k ≤ j) ↔ (j < m + 1 ∧ k ≤ j) := by omega
    simp only [this]
theorem shiftAt_end {xs : List Int} {k m : Nat} (h : xs.length ≤ m) : shiftAt xs k m = shiftAt xs k xs.length := by
  apply List.ext_getElem (by simp [shiftAt])
  intro j h1 h2
  rw [shiftAt_length] at h1
  simp only [shiftAt, List.getElem_map, List.getElem_range]
  have : (j < m ∧ k ≤ j) ↔ (j < xs.length ∧ k ≤ j) := by omega
  simp only [this]

def shiftN (xs : List Int) (k : Int) : Nat := if seriesB xs = true ∧ inB k 0 300 = true then xs.length else 0
def shiftL (xs : List Int) (k : Int) : List Int := if seriesB xs = true ∧ inB k 0 300 = true then shiftAt xs k.toNat xs.length else []
def shiftC (xs : List Int) (k : Int) : Int := if seriesB xs = true then if inB k 0 300 = true then 0 else 2 else 1

end Go.Proofs.YtoodhbafleemjaaGreat

/- Copies of lists, one factor 1/(1 - t^p), sums of series; SumsOfSeries on both sides. -/
namespace Go.Proofs.YtoodhbafleemjaaGreat
open Go.RowKit
set_option linter.unusedVariables false

theorem l01Own_any (A : Option Addr) (n c : Nat) (xs : List Int) (w : World) (h : RdS w w.heap.size A n c xs) (hn : n ≤ 2000000) :
    Calls Tryz.prog 131 #[.slice A n c] w (RetO n xs w) := by
  have hb0 : Below w.heap.size w (w.alloc (.cells #[] 2)) := (Below.refl _ _).alloc (Nat.le_refl _) _
  have H := Lib.hid (h.below hb0); clear h
  have HO := Lib.hid (own_empty w w.heap.size (Nat.le_refl _))
  have HB := Lib.hid hb0; clear hb0
  go_enter Tryz.func131, Tryz.ntmps131
  go_wp2_with (at_builtin; refine wpList_appI rfl (.tmp 3) (.tmp 4) rfl rfl rfl HO.out H.out (by omega) (by simp) ?_)
  intro A' c' w' ho hg _
  have HO' := Lib.hid ho; clear ho
  have HB' := Lib.hid (HB.out.grown hg HB.out.size HO.out.row); clear hg
  go_wp2_with fail
  go_ret
  exact ⟨_, _, rfl, HO'.out, HB'.out⟩

/-- sums from the beginning on -/
def psT (t : Int) (xs : List Int) : Int := xs.foldl (fun t x => wrap64 (t + x)) t
def ps (t : Int) : List Int → List Int
  | [] => []
  | x :: xs => wrap64 (t + x) :: ps (wrap64 (t + x)) xs
theorem ps_length (t : Int) (xs : List Int) : (ps t xs).length = xs.length := by
  induction xs generalizing t with
  | nil => rfl
  | cons x xs ih => simp [ps, ih]
theorem ps_snoc (t : Int) (xs : List Int) (x : Int) : ps t (xs ++ [x]) = ps t xs ++ [wrap64 (psT t xs + x)] := by
  induction xs generalizing t with
  | nil => rfl
  | cons y xs ih => simp [ps, psT, ih]
theorem psT_snoc (t : Int) (xs : List Int) (x : Int) : psT t (xs ++ [x]) = wrap64 (psT t xs + x) := by simp [psT]
theorem ps_addFrom {xs : List Int} {e : Nat} (he : xs.length = e) (m d : Nat) (hd : e - m = d) (hm : 1 ≤ m) : addFrom 1 e (ps 0 (xs.take m) ++ xs.drop m) m = ps 0 xs := by
  induction d generalizing m with
  | zero =>
    rw [addFrom_end (by omega), List.take_of_length_le (by omega), List.drop_of_length_le (by omega)]; simp
  | succ d ih =>
    have hlt : m < xs.length := by omega
    rw [addFrom_step (by omega), ← ih (m + 1) (by omega) (by omega)]
    congr 1
    have hl : (ps 0 (xs.take m)).length = m := by rw [ps_length, List.length_take]; omega
    have e1 : (ps 0 (xs.take m) ++ xs.drop m)[m]? = some xs[m] := by
      rw [List.getElem?_append_right (by omega), hl, Nat.sub_self, List.getElem?_drop]; simp
    have e2 : (ps 0 (xs.take m) ++ xs.drop m)[m - 1]? = some (psT 0 (xs.take m)) := by
      obtain ⟨k, rfl⟩ : ∃ k, m = k + 1 := ⟨m - 1, by omega⟩
      rw [List.getElem?_append_left (by omega), List.take_succ_eq_append_getElem (by omega), ps_snoc, psT_snoc, List.getElem?_append_right (by rw [ps_length, List.length_take]; omega), ps_length, List.length_take]
      rw [show k + 1 - 1 - min k xs.length = 0 by omega]; rfl
    rw [addP_of (Lib.hid e1) (Lib.hid e2), List.take_succ_eq_append_getElem hlt, ps_snoc, List.set_append_right _ _ (by omega), hl, Nat.sub_self, List.drop_eq_getElem_cons hlt, List.set_cons_zero, Int.add_comm]
    simp
theorem addFrom_one {xs : List Int} (h : ∀ x ∈ xs, -1000000000000 ≤ x ∧ x ≤ 1000000000000) (h1 : 1 ≤ xs.length) : addFrom 1 xs.length xs 1 = ps 0 xs := by
  rw [← ps_addFrom rfl 1 (xs.length - 1) rfl (Nat.le_refl _)]
  congr 1
  cases xs with
  | nil => simp at h1
  | cons x xs =>
    have := h x (List.mem_cons_self ..)
    simp [ps, wrap64]; omega

def sumsN (xs : List Int) : Nat := if seriesB xs = true ∧ (ps 0 xs).all smallB = true then xs.length else 0
def sumsL (xs : List Int) : List Int := if seriesB xs = true ∧ (ps 0 xs).all smallB = true then ps 0 xs else []
def sumsC (xs : List Int) : Int := if seriesB xs = true then if (ps 0 xs).all smallB = true then 0 else 3 else 1

end Go.Proofs.YtoodhbafleemjaaGreat
