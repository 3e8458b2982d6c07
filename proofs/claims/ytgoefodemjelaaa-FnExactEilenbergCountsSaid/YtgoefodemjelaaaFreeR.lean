/- SeriesOfFreeModule on both sides; the ranges of the laws on admissible words; FreeUnstableCounts of the program. -/
import Derived.Test.YtgoefodemjelaaaFree
namespace Go.Proofs.Ytgoefodemjelaaa
open Go.RowKit
set_option linter.unusedVariables false

theorem isDegree_any (n : Int) (w : World) : Calls Try.prog 65 #[.int .i64 n] w (RetP (inB n 0 40) w) := by
  go_enter Try.func65, Try.ntmps65
  go_wp2_with fail
  refine (in_any _ _ _ _).mono ?_
  rintro e w' ⟨rfl, rfl⟩
  go_wp2_with fail
  go_ret
  exact RetP.mk rfl

def okR (lo hi n d : Int) : Bool := inB n lo hi && inB d 0 40
theorem sSeriesOfFreeModule_no (n d : Int) (w : World) (h : okR 0 40 n d = false) : Calls Try.prog 38 #[.int .i64 n, .int .i64 d] w (RetSC 0 [] 2 w) := by
  have Hp := Lib.hid h; clear h
  cases hk : inB n 0 40
  · have Hk := Lib.hid hk; clear hk
    go_enter Try.func38, Try.ntmps38
    go_wp2_with fail
    refine (l01In_any _ _ _ _).mono ?_
    rintro e w' ⟨rfl, rfl⟩
    rw [Hk.out]
    go_wp2_with fail
    go_ret2
    exact RetSC.mk (k' := 2) rfl rfl OwnS.nil rfl (Below.refl _ _)
  · have Hk := Lib.hid hk; clear hk
    have Hd : Hid (inB d 0 40 = false) := Lib.hid (by have := Hp.out; simpa [okR, Hk.out] using this)
    go_enter Try.func38, Try.ntmps38
    go_wp2_with fail
    refine (l01In_any _ _ _ _).mono ?_
    rintro e w' ⟨rfl, rfl⟩
    rw [Hk.out]
    go_wp2_with fail
    refine (l01In_any _ _ _ _).mono ?_
    rintro e w' ⟨rfl, rfl⟩
    rw [Hd.out]
    go_wp2_with fail
    go_ret2
    exact RetSC.mk (k' := 2) rfl rfl OwnS.nil rfl (Below.refl _ _)
theorem iSeriesOfFreeModule_no (n d : Int) (w : World) (h : okR 0 40 n d = false) : Calls Try.prog 39 #[.int .i64 n, .int .i64 d] w (RetSC 0 [] 2 w) := by
  have Hp := Lib.hid h; clear h
  cases hk : inB n 0 40
  · have Hk := Lib.hid hk; clear hk
    go_enter Try.func39, Try.ntmps39
    go_wp2_with fail
    refine (isDegree_any _ _).mono ?_
    rintro e w' ⟨rfl, rfl⟩
    rw [Hk.out]
    go_wp2_with fail
    go_ret2
    exact RetSC.mk (k' := 2) rfl rfl OwnS.nil rfl (Below.refl _ _)
  · have Hk := Lib.hid hk; clear hk
    have Hd : Hid (inB d 0 40 = false) := Lib.hid (by have := Hp.out; simpa [okR, Hk.out] using this)
    go_enter Try.func39, Try.ntmps39
    go_wp2_with fail
    refine (isDegree_any _ _).mono ?_
    rintro e w' ⟨rfl, rfl⟩
    rw [Hk.out]
    go_wp2_with fail
    refine (isDegree_any _ _).mono ?_
    rintro e w' ⟨rfl, rfl⟩
    rw [Hd.out]
    go_wp2_with fail
    go_ret2
    exact RetSC.mk (k' := 2) rfl rfl OwnS.nil rfl (Below.refl _ _)
theorem sFreeUnstableCounts_no (n d : Int) (w : World) (h : okR 0 20 n d = false) : Calls Try.prog 40 #[.int .i64 n, .int .i64 d] w (RetSC 0 [] 2 w) := by
  have Hp := Lib.hid h; clear h
  cases hk : inB n 0 20
  · have Hk := Lib.hid hk; clear hk
    go_enter Try.func40, Try.ntmps40
    go_wp2_with fail
    refine (l01In_any _ _ _ _).mono ?_
    rintro e w' ⟨rfl, rfl⟩
    rw [Hk.out]
    go_wp2_with fail
    go_ret2
    exact RetSC.mk (k' := 2) rfl rfl OwnS.nil rfl (Below.refl _ _)
  · have Hk := Lib.hid hk; clear hk
    have Hd : Hid (inB d 0 40 = false) := Lib.hid (by have := Hp.out; simpa [okR, Hk.out] using this)
    go_enter Try.func40, Try.ntmps40
    go_wp2_with fail
    refine (l01In_any _ _ _ _).mono ?_
    rintro e w' ⟨rfl, rfl⟩
    rw [Hk.out]
    go_wp2_with fail
    refine (l01In_any _ _ _ _).mono ?_
    rintro e w' ⟨rfl, rfl⟩
    rw [Hd.out]
    go_wp2_with fail
    go_ret2
    exact RetSC.mk (k' := 2) rfl rfl OwnS.nil rfl (Below.refl _ _)
theorem iFreeUnstableCounts_no (n d : Int) (w : World) (h : okR 0 20 n d = false) : Calls Try.prog 41 #[.int .i64 n, .int .i64 d] w (RetSC 0 [] 2 w) := by
  have Hp := Lib.hid h; clear h
  cases hk : inB n 0 20
  · have Hk := Lib.hid hk; clear hk
    go_enter Try.func41, Try.ntmps41
    go_wp2_with fail
    refine (in_any _ _ _ _).mono ?_
    rintro e w' ⟨rfl, rfl⟩
    rw [Hk.out]
    go_wp2_with fail
    go_ret2
    exact RetSC.mk (k' := 2) rfl rfl OwnS.nil rfl (Below.refl _ _)
  · have Hk := Lib.hid hk; clear hk
    have Hd : Hid (inB d 0 40 = false) := Lib.hid (by have := Hp.out; simpa [okR, Hk.out] using this)
    go_enter Try.func41, Try.ntmps41
    go_wp2_with fail
    refine (in_any _ _ _ _).mono ?_
    rintro e w' ⟨rfl, rfl⟩
    rw [Hk.out]
    go_wp2_with fail
    refine (isDegree_any _ _).mono ?_
    rintro e w' ⟨rfl, rfl⟩
    rw [Hd.out]
    go_wp2_with fail
    go_ret2
    exact RetSC.mk (k' := 2) rfl rfl OwnS.nil rfl (Below.refl _ _)
theorem sEilenbergCounts_no (n d : Int) (w : World) (h : okR 1 20 n d = false) : Calls Try.prog 42 #[.int .i64 n, .int .i64 d] w (RetSC 0 [] 2 w) := by
  have Hp := Lib.hid h; clear h
  cases hk : inB n 1 20
  · have Hk := Lib.hid hk; clear hk
    go_enter Try.func42, Try.ntmps42
    go_wp2_with fail
    refine (l01In_any _ _ _ _).mono ?_
    rintro e w' ⟨rfl, rfl⟩
    rw [Hk.out]
    go_wp2_with fail
    go_ret2
    exact RetSC.mk (k' := 2) rfl rfl OwnS.nil rfl (Below.refl _ _)
  · have Hk := Lib.hid hk; clear hk
    have Hd : Hid (inB d 0 40 = false) := Lib.hid (by have := Hp.out; simpa [okR, Hk.out] using this)
    go_enter Try.func42, Try.ntmps42
    go_wp2_with fail
    refine (l01In_any _ _ _ _).mono ?_
    rintro e w' ⟨rfl, rfl⟩
    rw [Hk.out]
    go_wp2_with fail
    refine (l01In_any _ _ _ _).mono ?_
    rintro e w' ⟨rfl, rfl⟩
    rw [Hd.out]
    go_wp2_with fail
    go_ret2
    exact RetSC.mk (k' := 2) rfl rfl OwnS.nil rfl (Below.refl _ _)
theorem iEilenbergCounts_no (n d : Int) (w : World) (h : okR 1 20 n d = false) : Calls Try.prog 43 #[.int .i64 n, .int .i64 d] w (RetSC 0 [] 2 w) := by
  have Hp := Lib.hid h; clear h
  cases hk : inB n 1 20
  · have Hk := Lib.hid hk; clear hk
    go_enter Try.func43, Try.ntmps43
    go_wp2_with fail
    refine (in_any _ _ _ _).mono ?_
    rintro e w' ⟨rfl, rfl⟩
    rw [Hk.out]
    go_wp2_with fail
    go_ret2
    exact RetSC.mk (k' := 2) rfl rfl OwnS.nil rfl (Below.refl _ _)
  · have Hk := Lib.hid hk; clear hk
    have Hd : Hid (inB d 0 40 = false) := Lib.hid (by have := Hp.out; simpa [okR, Hk.out] using this)
    go_enter Try.func43, Try.ntmps43
    go_wp2_with fail
    refine (in_any _ _ _ _).mono ?_
    rintro e w' ⟨rfl, rfl⟩
    rw [Hk.out]
    go_wp2_with fail
    refine (isDegree_any _ _).mono ?_
    rintro e w' ⟨rfl, rfl⟩
    rw [Hd.out]
    go_wp2_with fail
    go_ret2
    exact RetSC.mk (k' := 2) rfl rfl OwnS.nil rfl (Below.refl _ _)
theorem sSeriesOfFreeAlgebra_no (n d : Int) (w : World) (h : okR 1 40 n d = false) : Calls Try.prog 44 #[.int .i64 n, .int .i64 d] w (RetSC 0 [] 2 w) := by
  have Hp := Lib.hid h; clear h
  cases hk : inB n 1 40
  · have Hk := Lib.hid hk; clear hk
    go_enter Try.func44, Try.ntmps44
    go_wp2_with fail
    refine (l01In_any _ _ _ _).mono ?_
    rintro e w' ⟨rfl, rfl⟩
    rw [Hk.out]
    go_wp2_with fail
    go_ret2
    exact RetSC.mk (k' := 2) rfl rfl OwnS.nil rfl (Below.refl _ _)
  · have Hk := Lib.hid hk; clear hk
    have Hd : Hid (inB d 0 40 = false) := Lib.hid (by have := Hp.out; simpa [okR, Hk.out] using this)
    go_enter Try.func44, Try.ntmps44
    go_wp2_with fail
    refine (l01In_any _ _ _ _).mono ?_
    rintro e w' ⟨rfl, rfl⟩
    rw [Hk.out]
    go_wp2_with fail
    refine (l01In_any _ _ _ _).mono ?_
    rintro e w' ⟨rfl, rfl⟩
    rw [Hd.out]
    go_wp2_with fail
    go_ret2
    exact RetSC.mk (k' := 2) rfl rfl OwnS.nil rfl (Below.refl _ _)
theorem iSeriesOfFreeAlgebra_no (n d : Int) (w : World) (h : okR 1 40 n d = false) : Calls Try.prog 45 #[.int .i64 n, .int .i64 d] w (RetSC 0 [] 2 w) := by
  have Hp := Lib.hid h; clear h
  cases hk : inB n 1 40
  · have Hk := Lib.hid hk; clear hk
    go_enter Try.func45, Try.ntmps45
    go_wp2_with fail
    refine (in_any _ _ _ _).mono ?_
    rintro e w' ⟨rfl, rfl⟩
    rw [Hk.out]
    go_wp2_with fail
    go_ret2
    exact RetSC.mk (k' := 2) rfl rfl OwnS.nil rfl (Below.refl _ _)
  · have Hk := Lib.hid hk; clear hk
    have Hd : Hid (inB d 0 40 = false) := Lib.hid (by have := Hp.out; simpa [okR, Hk.out] using this)
    go_enter Try.func45, Try.ntmps45
    go_wp2_with fail
    refine (in_any _ _ _ _).mono ?_
    rintro e w' ⟨rfl, rfl⟩
    rw [Hk.out]
    go_wp2_with fail
    refine (isDegree_any _ _).mono ?_
    rintro e w' ⟨rfl, rfl⟩
    rw [Hd.out]
    go_wp2_with fail
    go_ret2
    exact RetSC.mk (k' := 2) rfl rfl OwnS.nil rfl (Below.refl _ _)
theorem sSeriesOfFreeModule_yes (n d : Nat) (w : World) (h : okR 0 40 n d = true) : Calls Try.prog 38 #[.int .i64 n, .int .i64 d] w (RetSC (d + 1) (freeL n n d) 0 w) := by
  have hp : inB n 0 40 = true ∧ inB d 0 40 = true := by simpa [okR] using h
  have hk := inB_iff.1 hp.1
  have hd := inB_iff.1 hp.2
  have Hk := Lib.hid hp.1
  have Hd := Lib.hid hp.2
  obtain ⟨R, hR⟩ : ∃ R, R = freeL n n d := ⟨_, rfl⟩
  rw [← hR]
  have HR := Lib.hid hR
  clear hp h hR
  go_enter Try.func38, Try.ntmps38
  go_wp2_with fail
  refine (l01In_any _ _ _ _).mono ?_
  rintro e w' ⟨rfl, rfl⟩
  rw [Hk.out]
  go_wp2_with fail
  refine (l01In_any _ _ _ _).mono ?_
  rintro e w' ⟨rfl, rfl⟩
  rw [Hd.out]
  go_wp2_with fail
  refine (l18Free_any n d n _ (by omega) (by omega)).mono ?_
  rintro e w1 ⟨A1, c1, rfl, ho1, hb1⟩
  rw [← HR.out] at ho1
  have HO := Lib.hid ho1
  have HB := Lib.hid hb1
  clear ho1 hb1
  go_wp2_with fail
  go_ret2
  exact RetSC.mk (k' := 0) rfl rfl HO.out rfl HB.out
theorem iSeriesOfFreeModule_yes (n d : Nat) (w : World) (h : okR 0 40 n d = true) : Calls Try.prog 39 #[.int .i64 n, .int .i64 d] w (RetSC (d + 1) (freeL n n d) 0 w) := by
  have hp : inB n 0 40 = true ∧ inB d 0 40 = true := by simpa [okR] using h
  have hk := inB_iff.1 hp.1
  have hd := inB_iff.1 hp.2
  have Hk := Lib.hid hp.1
  have Hd := Lib.hid hp.2
  obtain ⟨R, hR⟩ : ∃ R, R = freeL n n d := ⟨_, rfl⟩
  rw [← hR]
  have HR := Lib.hid hR
  clear hp h hR
  go_enter Try.func39, Try.ntmps39
  go_wp2_with fail
  refine (isDegree_any _ _).mono ?_
  rintro e w' ⟨rfl, rfl⟩
  rw [Hk.out]
  go_wp2_with fail
  refine (isDegree_any _ _).mono ?_
  rintro e w' ⟨rfl, rfl⟩
  rw [Hd.out]
  go_wp2_with fail
  refine (freeCounts_any n d n _ (by omega) (by omega)).mono ?_
  rintro e w1 ⟨A1, c1, rfl, ho1, hb1⟩
  rw [← HR.out] at ho1
  have HO := Lib.hid ho1
  have HB := Lib.hid hb1
  clear ho1 hb1
  go_wp2_with fail
  go_ret2
  exact RetSC.mk (k' := 0) rfl rfl HO.out rfl HB.out
theorem iFreeUnstableCounts_yes (n d : Nat) (w : World) (h : okR 0 20 n d = true) : Calls Try.prog 41 #[.int .i64 n, .int .i64 d] w (RetSC (d + 1) (freeL n n d) 0 w) := by
  have hp : inB n 0 20 = true ∧ inB d 0 40 = true := by simpa [okR] using h
  have hk := inB_iff.1 hp.1
  have hd := inB_iff.1 hp.2
  have Hk := Lib.hid hp.1
  have Hd := Lib.hid hp.2
  obtain ⟨R, hR⟩ : ∃ R, R = freeL n n d := ⟨_, rfl⟩
  rw [← hR]
  have HR := Lib.hid hR
  clear hp h hR
  go_enter Try.func41, Try.ntmps41
  go_wp2_with fail
  refine (in_any _ _ _ _).mono ?_
  rintro e w' ⟨rfl, rfl⟩
  rw [Hk.out]
  go_wp2_with fail
  refine (isDegree_any _ _).mono ?_
  rintro e w' ⟨rfl, rfl⟩
  rw [Hd.out]
  go_wp2_with fail
  refine (freeCounts_any n d n _ (by omega) (by omega)).mono ?_
  rintro e w1 ⟨A1, c1, rfl, ho1, hb1⟩
  rw [← HR.out] at ho1
  have HO := Lib.hid ho1
  have HB := Lib.hid hb1
  clear ho1 hb1
  go_wp2_with fail
  go_ret2
  exact RetSC.mk (k' := 0) rfl rfl HO.out rfl HB.out
theorem SeriesOfFreeModule_both (n d : Int) (_wk : (Lit.int .i64 n).wf = true) (_wd : (Lit.int .i64 d).wf = true) : ∃ (l : Nat) (xs : List Int) (c : Int), l ≤ 1000000 ∧
    (∀ w, Calls Try.prog 38 #[.int .i64 n, .int .i64 d] w (RetSC l xs c w)) ∧ (∀ w, Calls Try.prog 39 #[.int .i64 n, .int .i64 d] w (RetSC l xs c w)) := by
  cases h : okR 0 40 n d
  · exact ⟨0, [], 2, by omega, fun w => sSeriesOfFreeModule_no n d w h, fun w => iSeriesOfFreeModule_no n d w h⟩
  · have hp : inB n 0 40 = true ∧ inB d 0 40 = true := by simpa [okR] using h
    have hk := inB_iff.1 hp.1
    have hd := inB_iff.1 hp.2
    obtain ⟨n, rfl⟩ := Int.eq_ofNat_of_zero_le (show 0 ≤ n by omega)
    obtain ⟨d, rfl⟩ := Int.eq_ofNat_of_zero_le (show 0 ≤ d by omega)
    exact ⟨d + 1, freeL n n d, 0, by omega, fun w => sSeriesOfFreeModule_yes n d w h, fun w => iSeriesOfFreeModule_yes n d w h⟩
end Go.Proofs.Ytgoefodemjelaaa
