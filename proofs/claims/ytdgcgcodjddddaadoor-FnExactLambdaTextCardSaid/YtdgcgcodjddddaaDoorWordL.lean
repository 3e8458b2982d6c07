/- Lambda words on both sides: isLambdaWord, l16Word. -/
import Derived.Test.YtdgcgcodjddddaaDoorAllL
import Derived.Test.YtdgcgcodjddddaaDoorLex
namespace Go.Proofs.YtdgcgcodjddddaaDoor
open Go.RowKit
set_option linter.unusedVariables false

theorem factor_any (n : Int) (w : World) : Calls Tryd.prog 84 #[.int .i64 n] w (RetP (inB n 0 11) w) := by
  go_enter Tryd.func84, Tryd.ntmps84
  go_wp2_with fail
  refine (in_any _ _ _ _).mono ?_
  rintro e w' ⟨rfl, rfl⟩
  go_wp2_with fail
  go_ret
  exact RetP.mk rfl
theorem stem_any (A : Option Addr) (n c B : Nat) (xs : List Int) (w : World) (h : RdS w B A n c xs) (hn : n ≤ 1000000000000) :
    Calls Tryd.prog 31 #[.slice A n c] w (RetI (psT 0 xs) w) := by
  have Hl := Lib.hid h.len
  obtain ⟨R, hR⟩ : ∃ R, R = psT 0 xs := ⟨_, rfl⟩
  have HR := Lib.hid hR
  rw [← hR]
  clear hR
  go_enter Tryd.func31, Tryd.ntmps31
  go_wp2_with fail
  go_loop [3, 4] (fun t i => ∃ (k : Nat) (s : Int), k ≤ n ∧ i = .int .i64 k ∧ t = .int .i64 s ∧ Hid (s = psT 0 (xs.take k))) (fun _ i => n - (intOf i).toNat)
  case atStart => exact ⟨0, 0, Nat.zero_le _, rfl, rfl, Lib.hid rfl⟩
  case round =>
    obtain ⟨k, s, hk, rfl, rfl, HS⟩ := hrel
    by_cases hlt : k < n
    · obtain ⟨ad, x, rfl, _, hx, hc⟩ := h.at_ hlt
      go_wp2_with fail
      go_round
      case rel => exact ⟨k+1, wrap64 (s + x), by omega, by go_num, rfl, Lib.hid (by rw [take_succ_of hx, psT_snoc, ← HS.out])⟩
      case measure => simp [intOf]; omega
    · go_wp2_with fail
      go_ret
      obtain rfl : k = n := by omega
      refine RetI.mk (y := s) ?_
      rw [HS.out, HR.out, List.take_of_length_le (by rw [Hl.out]; omega)]

def facB (xs : List Int) : Bool := xs.all (fun x => inB x 0 11)
def wordB (xs : List Int) : Bool := decide (xs.length ≤ 7) && facB xs && inB (psT 0 xs) 0 11

theorem facAll_any (A : Option Addr) (n c : Nat) (xs : List Int) (w : World) (h : RdS w w.heap.size A n c xs) (hn : n ≤ 2000000) :
    Calls Tryd.prog 83 #[.slice A n c, .func (.func 84) #[] #[]] w (RetBb (facB xs) w) := by
  have hl := h.len
  refine (allI_any A n c xs _ _ _ w h hn (cond_of (fun x => inB x 0 11) (enters_of Tryd.func84 (by kernel_rfl) rfl) factor_any xs w)).mono ?_
  intro e w' hw
  rw [all_range xs (fun x => inB x 0 11) _ n hl (fun j hj => by simp [List.getElem?_eq_getElem hj])] at hw
  exact hw

theorem isLambdaWord_any (A : Option Addr) (n c : Nat) (xs : List Int) (w : World) (h : RdS w w.heap.size A n c xs) (hn : n ≤ 2000000) :
    Calls Tryd.prog 52 #[.slice A n c] w (RetBb (wordB xs) w) := by
  have Hl := Lib.hid h.len
  have H := Lib.hid h; clear h
  by_cases h7 : n ≤ 7
  · cases hf : facB xs
    · have HV : Hid (wordB xs = false) := Lib.hid (by simp [wordB, hf])
      have HF := Lib.hid hf; clear hf
      go_enter Tryd.func52, Tryd.ntmps52
      go_wp2_with fail
      refine (facAll_any A n c xs _ H.out (by omega)).mono ?_
      rintro e w1 ⟨rfl, hb1⟩
      rw [HF.out]
      go_wp2_with fail
      go_ret
      exact RetBb.mk (b' := false) HV.out.symm hb1
    · have HV : Hid (wordB xs = inB (psT 0 xs) 0 11) := Lib.hid (by simp [wordB, hf, Hl.out, h7])
      have HF := Lib.hid hf; clear hf
      obtain ⟨t, ht⟩ : ∃ t, t = psT 0 xs := ⟨_, rfl⟩
      have HT := Lib.hid ht
      rw [← ht] at HV
      clear ht
      go_enter Tryd.func52, Tryd.ntmps52
      go_wp2_with fail
      refine (facAll_any A n c xs _ H.out (by omega)).mono ?_
      rintro e w1 ⟨rfl, hb1⟩
      rw [HF.out]
      have HB1 := Lib.hid hb1; clear hb1
      go_wp2_with fail
      refine (sum_any A n c _ xs _ (H.out.below HB1.out) (by omega)).mono ?_
      rintro e w2 ⟨rfl, rfl⟩
      rw [← HT.out]
      go_wp2_with fail
      refine (factor_any _ _).mono ?_
      rintro e w2 ⟨rfl, rfl⟩
      go_wp2_with fail
      go_ret
      exact RetBb.mk HV.out.symm HB1.out
  · have HV : Hid (wordB xs = false) := Lib.hid (by simp [wordB, Hl.out, h7])
    go_enter Tryd.func52, Tryd.ntmps52
    go_wp2_with fail
    go_ret
    exact RetBb.mk (b' := false) HV.out.symm (Below.refl _ _)

theorem psT_range_aux (xs : List Int) : ∀ t : Int, 0 ≤ t → t + 11 * (xs.length : Int) ≤ 1000000 → facB xs = true → 0 ≤ psT t xs ∧ psT t xs ≤ t + 11 * (xs.length : Int) := by
  induction xs with
  | nil => intro t h0 h1 _; simp [psT]; omega
  | cons x xs ih =>
    intro t h0 h1 hf
    have hx : inB x 0 11 = true ∧ facB xs = true := by simpa [facB] using hf
    have hx0 := inB_iff.1 hx.1
    have hl : ((x :: xs).length : Int) = (xs.length : Int) + 1 := by simp
    rw [hl] at h1 ⊢
    have hw : wrap64 (t + x) = t + x := by unfold wrap64; omega
    have e : psT t (x :: xs) = psT (t + x) xs := by rw [← hw]; rfl
    rw [e]
    have := ih (t + x) (by omega) (by omega) hx.2
    omega
theorem psT_range {xs : List Int} (h : facB xs = true) (hl : xs.length ≤ 7) : 0 ≤ psT 0 xs := (psT_range_aux xs 0 (by omega) (by omega) h).1
theorem facB_no {xs : List Int} {k : Nat} {x : Int} (hx : Hid (xs[k]? = some x)) (h : inB x 0 11 = false) : facB xs = false := by
  rw [facB, List.all_eq_false]
  exact ⟨x, mem_of hx, by simp [h]⟩

theorem l16Word_any (A : Option Addr) (n c B : Nat) (xs : List Int) (w : World) (h : RdS w B A n c xs) (hn : n ≤ 2000000) :
    Calls Tryd.prog 48 #[.slice A n c] w (RetP (wordB xs) w) := by
  have Hl := Lib.hid h.len
  have H := Lib.hid h; clear h
  by_cases h7 : n ≤ 7
  · go_enter Tryd.func48, Tryd.ntmps48
    go_wp2_with fail
    go_loop [3] (fun i => ∃ k : Nat, k ≤ n ∧ i = .int .i64 k ∧ Hid (facB (xs.take k) = true)) (fun i => n - (intOf i).toNat)
    case atStart => exact ⟨0, Nat.zero_le _, rfl, Lib.hid rfl⟩
    case round =>
      obtain ⟨k, hk, rfl, HF⟩ := hrel
      by_cases hlt : k < n
      · obtain ⟨ad, x, rfl, _, hx, hc⟩ := H.out.at_ hlt
        cases hi : inB x 0 11
        · have HI := Lib.hid hi; clear hi
          go_wp2_with fail
          refine (l01In_any _ _ _ _).mono ?_
          rintro e w' ⟨rfl, rfl⟩
          rw [HI.out]
          go_wp2_with fail
          go_ret
          exact RetP.mk (b' := false) (by simp [wordB, facB_no hx HI.out])
        · have HI := Lib.hid hi; clear hi
          go_wp2_with fail
          refine (l01In_any _ _ _ _).mono ?_
          rintro e w' ⟨rfl, rfl⟩
          rw [HI.out]
          go_wp2_with fail
          go_round
          case rel => exact ⟨k + 1, by omega, by go_num, Lib.hid (by
            have h1 := HF.out
            rw [take_succ_of hx]
            unfold facB at h1 ⊢
            rw [List.all_append, h1]
            simp [HI.out])⟩
          case measure => simp [intOf]; omega
      · obtain rfl : k = n := by omega
        have hfa : facB xs = true := by have h1 := HF.out; rwa [List.take_of_length_le (by rw [Hl.out]; omega)] at h1
        obtain ⟨t, ht⟩ : ∃ t, t = psT 0 xs := ⟨_, rfl⟩
        have HV : Hid (wordB xs = decide (t ≤ 11)) := Lib.hid (by
          have h0 := psT_range hfa (by rw [Hl.out]; exact h7)
          rw [← ht] at h0
          simp only [wordB, hfa, Hl.out, h7, ← ht, inB, decide_true, Bool.true_and]
          congr 1
          exact propext ⟨fun h => h.2, fun h => ⟨h0, h⟩⟩)
        have HT := Lib.hid ht
        clear ht hfa
        go_wp2_with fail
        refine (stem_any A k c _ xs _ H.out (by omega)).mono ?_
        rintro e w2 ⟨rfl, rfl⟩
        rw [← HT.out]
        go_wp2_with fail
        go_ret
        exact RetP.mk (b' := decide (t ≤ 11)) HV.out.symm
  · have HV : Hid (wordB xs = false) := Lib.hid (by simp [wordB, Hl.out, h7])
    go_enter Tryd.func48, Tryd.ntmps48
    go_wp2_with fail
    go_ret
    exact RetP.mk (b' := false) HV.out.symm
end Go.Proofs.YtdgcgcodjddddaaDoor
