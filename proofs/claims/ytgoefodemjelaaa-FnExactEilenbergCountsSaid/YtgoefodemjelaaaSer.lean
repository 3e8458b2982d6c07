/- Contracts on series of degrees: isSeries, l18Is, IsNonnegative on both sides. -/
import Derived.Test.YtgoefodemjelaaaBase
namespace Go.Proofs.Ytgoefodemjelaaa
open Go.RowKit
set_option linter.unusedVariables false

def seriesB (xs : List Int) : Bool := decide (1 ≤ xs.length) && (decide (xs.length ≤ 301) && xs.all smallB)

theorem small_cond (xs : List Int) (w : World) : Cond 69 #[] (xs.map (.int .i64)) (fun j => smallB (xs[j]?.getD 0)) w :=
  cond_of smallB (enters_of Try.func69 (by kernel_rfl) rfl) isSmall_any xs w
theorem all_getD (xs : List Int) (q : Int → Bool) (n : Nat) (hn : xs.length = n) : (List.range n).all (fun j => q (xs[j]?.getD 0)) = xs.all q :=
  all_range xs q _ n hn (fun j hj => by simp [hj])

theorem isSeries_any (A : Option Addr) (n c : Nat) (xs : List Int) (w : World) (h : RdS w w.heap.size A n c xs) (hn : n ≤ 2000000) :
    Calls Try.prog 47 #[.slice A n c] w (RetBb (seriesB xs) w) := by
  have hl := h.len
  by_cases h1 : 1 ≤ n
  · by_cases h2 : n ≤ 301
    · have H := Lib.hid h; clear h
      have Hl := Lib.hid hl; clear hl
      go_enter Try.func47, Try.ntmps47
      go_wp2_with fail
      refine (allI_any A n c xs _ _ _ _ H.out hn (small_cond xs _)).mono ?_
      rintro e w1 ⟨rfl, hb1⟩
      go_wp2_with fail
      go_ret
      exact RetBb.mk (by rw [all_getD xs smallB n Hl.out]; unfold seriesB; rw [decide_eq_true (by rw [Hl.out]; exact h1), decide_eq_true (by rw [Hl.out]; exact h2)]; rfl) hb1
    · have Hl := Lib.hid hl; clear hl h
      go_enter Try.func47, Try.ntmps47
      go_wp2_with fail
      go_ret
      exact RetBb.mk (b' := false) (by unfold seriesB; rw [decide_eq_false (p := xs.length ≤ 301) (by rw [Hl.out]; exact h2)]; simp) (Below.refl _ _)
  · have Hl := Lib.hid hl; clear hl h
    go_enter Try.func47, Try.ntmps47
    go_wp2_with fail
    go_ret
    exact RetBb.mk (b' := false) (by unfold seriesB; rw [decide_eq_false (p := 1 ≤ xs.length) (by rw [Hl.out]; exact h1)]; simp) (Below.refl _ _)

theorem all_take_succ {xs : List Int} {q : Int → Bool} {k : Nat} {x : Int} (h : Hid ((xs.take k).all q = true)) (hx : Hid (xs[k]? = some x)) (hq : q x = true) : (xs.take (k+1)).all q = true := by
  rw [take_succ_of hx, List.all_append, h.out]; simp [hq]
theorem all_false_of {xs : List Int} {q : Int → Bool} {k : Nat} {x : Int} (hx : Hid (xs[k]? = some x)) (hq : q x = false) : xs.all q = false := by
  rw [List.all_eq_false]; exact ⟨x, mem_of hx, by simp [hq]⟩

theorem l18Is_any (A : Option Addr) (n c B : Nat) (xs : List Int) (w : World) (h : RdS w B A n c xs) (hn : n ≤ 2000000) :
    Calls Try.prog 46 #[.slice A n c] w (RetP (seriesB xs) w) := by
  have Hl := Lib.hid h.len
  go_enter Try.func46, Try.ntmps46
  go_wp2_with fail
  go_loop [3] (fun i => ∃ k : Nat, k ≤ n ∧ i = .int .i64 k ∧ Hid ((xs.take k).all smallB = true)) (fun i => n - (intOf i).toNat)
  case atStart => exact ⟨0, Nat.zero_le _, rfl, Lib.hid (by simp)⟩
  case round =>
    obtain ⟨k, hk, rfl, H0⟩ := hrel
    by_cases hlt : k < n
    · obtain ⟨ad, x, rfl, _, hx, hc⟩ := h.at_ hlt
      by_cases hp : smallB x = true
      · have Hp := Lib.hid hp; clear hp
        go_wp2_with fail
        refine (l18Number_any _ _).mono ?_
        rintro e w1 ⟨rfl, rfl⟩
        rw [Hp.out]
        go_wp2_with fail
        go_round
        case rel => exact ⟨k+1, by omega, by go_num, Lib.hid (all_take_succ H0 hx Hp.out)⟩
        case measure => simp [intOf]; omega
      · have Hp := Lib.hid (Bool.eq_false_iff.2 hp); clear hp
        go_wp2_with fail
        refine (l18Number_any _ _).mono ?_
        rintro e w1 ⟨rfl, rfl⟩
        rw [Hp.out]
        go_wp2_with fail
        go_ret
        exact RetP.mk (b := seriesB xs) (b' := false) (by unfold seriesB; rw [all_false_of hx Hp.out]; simp)
    · obtain rfl : k = n := by omega
      have Ha := H0.out
      rw [List.take_of_length_le (by rw [Hl.out]; omega)] at Ha
      have HA := Lib.hid Ha; clear Ha
      by_cases h1 : 1 ≤ k
      · by_cases h2 : k ≤ 301
        · go_wp2_with fail
          go_ret
          refine RetP.mk (b := seriesB xs) (b' := decide ((k : Int) ≤ 301)) ?_
          unfold seriesB; rw [HA.out, Hl.out, Bool.eq_iff_iff]; simp; omega
        · go_wp2_with fail
          go_ret
          refine RetP.mk (b := seriesB xs) (b' := decide ((k : Int) ≤ 301)) ?_
          unfold seriesB; rw [HA.out, Hl.out, Bool.eq_iff_iff]; simp; omega
      · go_wp2_with fail
        go_ret
        exact RetP.mk (b := seriesB xs) (b' := false) (by unfold seriesB; rw [decide_eq_false (p := 1 ≤ xs.length) (by rw [Hl.out]; exact h1)]; simp)
theorem seriesB_len {xs : List Int} (h : seriesB xs = true) : 1 ≤ xs.length ∧ xs.length ≤ 301 := by
  simp [seriesB] at h; omega
theorem seriesB_small {xs : List Int} (h : seriesB xs = true) : ∀ x ∈ xs, -1000000000000 ≤ x ∧ x ≤ 1000000000000 := by
  simp only [seriesB, Bool.and_eq_true, List.all_eq_true] at h
  intro x hx
  exact inB_iff.1 (h.2.2 x hx)

/-! ### IsNonnegative -/
/-- two results: a bool and a code -/
def RetBC (b : Bool) (k : Int) (w : World) (e : Ending) (w' : World) : Prop := e = .returned (.tuple #[.bool b, .int .i64 k]) ∧ Below w.heap.size w w'
theorem RetBC.mk {b b' : Bool} {k k' : Int} {w w' : World} (h : b' = b) (hk : k' = k) (hb : Below w.heap.size w w') : RetBC b k w (.returned (.tuple #[.bool b', .int .i64 k'])) w' := ⟨by rw [h, hk], hb⟩

def nonB (x : Int) : Bool := decide (0 ≤ x)
def nonnegR (xs : List Int) : Bool := if seriesB xs = true then xs.all nonB else false
def nonnegC (xs : List Int) : Int := if seriesB xs = true then 0 else 1

theorem non1_any (x : Int) (w : World) : Calls Try.prog 49 #[.int .i64 x] w (RetP (nonB x) w) := by
  go_enter Try.func49, Try.ntmps49
  go_wp2_with fail
  go_ret
  exact RetP.mk rfl
theorem iIsNonnegative (A : Option Addr) (n c : Nat) (xs : List Int) (w : World) (h : RdS w w.heap.size A n c xs) (hn : n ≤ 2000000) :
    Calls Try.prog 17 #[.slice A n c] w (RetBC (nonnegR xs) (nonnegC xs) w) := by
  have Hl := Lib.hid h.len
  have H := Lib.hid h; clear h
  by_cases hp : seriesB xs = true
  · have Hp := Lib.hid hp; clear hp
    go_enter Try.func17, Try.ntmps17
    go_wp2_with fail
    refine (isSeries_any A n c xs _ H.out hn).mono ?_
    rintro e w1 ⟨rfl, hb1⟩
    have Hb1 := Lib.hid hb1; clear hb1
    rw [Hp.out]
    go_wp2_with fail
    refine (allI_any A n c xs _ _ (fun j => nonB (xs[j]?.getD 0)) _ ((H.out.below Hb1.out).mono Hb1.out.size) hn (cond_of nonB (enters_of Try.func49 (by kernel_rfl) rfl) non1_any xs _)).mono ?_
    rintro e w2 ⟨rfl, hb2⟩
    go_wp2_with fail
    go_ret2
    exact RetBC.mk (by rw [all_getD xs nonB n Hl.out]; simp [nonnegR, Hp.out]) (by simp [nonnegC, Hp.out]) (Hb1.out.trans (hb2.mono Hb1.out.size))
  · have Hp := Lib.hid (Bool.eq_false_iff.2 hp); clear hp
    go_enter Try.func17, Try.ntmps17
    go_wp2_with fail
    refine (isSeries_any A n c xs _ H.out hn).mono ?_
    rintro e w1 ⟨rfl, hb1⟩
    have Hb1 := Lib.hid hb1; clear hb1
    rw [Hp.out]
    go_wp2_with fail
    go_ret2
    exact RetBC.mk (by simp [nonnegR, Hp.out]) (by simp [nonnegC, Hp.out]) Hb1.out
theorem sIsNonnegative (A : Option Addr) (n c : Nat) (xs : List Int) (w : World) (h : RdS w w.heap.size A n c xs) (hn : n ≤ 2000000) :
    Calls Try.prog 15 #[.slice A n c] w (RetBC (nonnegR xs) (nonnegC xs) w) := by
  have Hl := Lib.hid h.len
  by_cases hp : seriesB xs = true
  · have Hp := Lib.hid hp; clear hp
    go_enter Try.func15, Try.ntmps15
    go_wp2_with fail
    refine (l18Is_any A n c _ xs _ h hn).mono ?_
    rintro e w1 ⟨rfl, rfl⟩
    rw [Hp.out]
    go_wp2_with fail
    go_loop [4] (fun i => ∃ k : Nat, k ≤ n ∧ i = .int .i64 k ∧ Hid ((xs.take k).all nonB = true)) (fun i => n - (intOf i).toNat)
    case atStart => exact ⟨0, Nat.zero_le _, rfl, Lib.hid (by simp)⟩
    case round =>
      obtain ⟨k, hk, rfl, H0⟩ := hrel
      by_cases hlt : k < n
      · obtain ⟨ad, x, rfl, _, hx, hc⟩ := h.at_ hlt
        by_cases hq : 0 ≤ x
        · go_wp2_with fail
          go_round
          case rel => exact ⟨k+1, by omega, by go_num, Lib.hid (all_take_succ H0 hx (decide_eq_true hq))⟩
          case measure => simp [intOf]; omega
        · go_wp2_with fail
          go_ret2
          exact RetBC.mk (b' := false) (k' := 0) (by simp [nonnegR, Hp.out]; exact ⟨x, mem_of hx, by simp [nonB]; omega⟩) (by simp [nonnegC, Hp.out]) (Below.refl _ _)
      · go_wp2_with fail
        go_ret2
        obtain rfl : k = n := by omega
        have Ha := H0.out
        rw [List.take_of_length_le (by rw [Hl.out]; omega)] at Ha
        exact RetBC.mk (b' := true) (k' := 0) (by simp only [nonnegR, Hp.out, if_true]; exact Ha.symm) (by simp [nonnegC, Hp.out]) (Below.refl _ _)
  · have Hp := Lib.hid (Bool.eq_false_iff.2 hp); clear hp
    go_enter Try.func15, Try.ntmps15
    go_wp2_with fail
    refine (l18Is_any A n c _ xs _ h hn).mono ?_
    rintro e w1 ⟨rfl, rfl⟩
    rw [Hp.out]
    go_wp2_with fail
    go_ret2
    exact RetBC.mk (by simp [nonnegR, Hp.out]) (by simp [nonnegC, Hp.out]) (Below.refl _ _)
end Go.Proofs.Ytgoefodemjelaaa
