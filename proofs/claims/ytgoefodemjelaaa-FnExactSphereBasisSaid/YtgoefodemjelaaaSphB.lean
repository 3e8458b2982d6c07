/- SphereBasis on both sides. -/
import Derived.Test.YtgoefodemjelaaaLamB
namespace Go.Proofs.Ytgoefodemjelaaa
open Go.RowKit
set_option linter.unusedVariables false

theorem isSphere_any (n : Int) (w : World) : Calls Try.prog 59 #[.int .i64 n] w (RetP (inB n 1 40) w) := by
  go_enter Try.func59, Try.ntmps59
  go_wp2_with fail
  refine (in_any _ _ _ _).mono ?_
  rintro e w' ⟨rfl, rfl⟩
  go_wp2_with fail
  go_ret
  exact RetP.mk rfl

def sbokB (m s n : Int) : Bool := inB m 1 40 && (inB s 0 7 && inB n 0 11)
def sbL (m s n : Int) : List (List Int) := if sbokB m s n = true then lw s.toNat n.toNat (m - 1).toNat else []
def sbC (m s n : Int) : Int := if sbokB m s n = true then 0 else 2

theorem sSphereBasis_no (m s n : Int) (w : World) (h : sbokB m s n = false) : Calls Try.prog 30 #[.int .i64 m, .int .i64 s, .int .i64 n] w (RetLC (sbL m s n).length (sbL m s n) (sbC m s n) w) := by
  have hl : sbL m s n = [] := by simp [sbL, h]
  have hc : sbC m s n = 2 := by simp [sbC, h]
  rw [hl, hc]
  have Hp := Lib.hid h; clear h hl hc
  cases hm : inB m 1 40
  · have Hm := Lib.hid hm; clear hm
    go_enter Try.func30, Try.ntmps30
    go_wp2_with fail
    refine (l01In_any _ _ _ _).mono ?_
    rintro e w' ⟨rfl, rfl⟩
    rw [Hm.out]
    go_wp2_with fail
    go_ret2
    exact RetLC.mk (k' := 2) rfl rfl OwnL.nil rfl (Below.refl _ _)
  · have Hm := Lib.hid hm; clear hm
    cases hk : inB s 0 7
    · have Hk := Lib.hid hk; clear hk
      go_enter Try.func30, Try.ntmps30
      go_wp2_with fail
      refine (l01In_any _ _ _ _).mono ?_
      rintro e w' ⟨rfl, rfl⟩
      rw [Hm.out]
      go_wp2_with fail
      refine (l01In_any _ _ _ _).mono ?_
      rintro e w' ⟨rfl, rfl⟩
      rw [Hk.out]
      go_wp2_with fail
      go_ret2
      exact RetLC.mk (k' := 2) rfl rfl OwnL.nil rfl (Below.refl _ _)
    · have Hk := Lib.hid hk; clear hk
      have Hd : Hid (inB n 0 11 = false) := Lib.hid (by have := Hp.out; simpa [sbokB, Hm.out, Hk.out] using this)
      go_enter Try.func30, Try.ntmps30
      go_wp2_with fail
      refine (l01In_any _ _ _ _).mono ?_
      rintro e w' ⟨rfl, rfl⟩
      rw [Hm.out]
      go_wp2_with fail
      refine (l01In_any _ _ _ _).mono ?_
      rintro e w' ⟨rfl, rfl⟩
      rw [Hk.out]
      go_wp2_with fail
      refine (l01In_any _ _ _ _).mono ?_
      rintro e w' ⟨rfl, rfl⟩
      rw [Hd.out]
      go_wp2_with fail
      go_ret2
      exact RetLC.mk (k' := 2) rfl rfl OwnL.nil rfl (Below.refl _ _)
theorem iSphereBasis_no (m s n : Int) (w : World) (h : sbokB m s n = false) : Calls Try.prog 31 #[.int .i64 m, .int .i64 s, .int .i64 n] w (RetLC (sbL m s n).length (sbL m s n) (sbC m s n) w) := by
  have hl : sbL m s n = [] := by simp [sbL, h]
  have hc : sbC m s n = 2 := by simp [sbC, h]
  rw [hl, hc]
  have Hp := Lib.hid h; clear h hl hc
  cases hm : inB m 1 40
  · have Hm := Lib.hid hm; clear hm
    go_enter Try.func31, Try.ntmps31
    go_wp2_with fail
    refine (isSphere_any _ _).mono ?_
    rintro e w' ⟨rfl, rfl⟩
    rw [Hm.out]
    go_wp2_with fail
    go_ret2
    exact RetLC.mk (k' := 2) rfl rfl OwnL.nil rfl (Below.refl _ _)
  · have Hm := Lib.hid hm; clear hm
    cases hk : inB s 0 7
    · have Hk := Lib.hid hk; clear hk
      go_enter Try.func31, Try.ntmps31
      go_wp2_with fail
      refine (isSphere_any _ _).mono ?_
      rintro e w' ⟨rfl, rfl⟩
      rw [Hm.out]
      go_wp2_with fail
      refine (in_any _ _ _ _).mono ?_
      rintro e w' ⟨rfl, rfl⟩
      rw [Hk.out]
      go_wp2_with fail
      go_ret2
      exact RetLC.mk (k' := 2) rfl rfl OwnL.nil rfl (Below.refl _ _)
    · have Hk := Lib.hid hk; clear hk
      have Hd : Hid (inB n 0 11 = false) := Lib.hid (by have := Hp.out; simpa [sbokB, Hm.out, Hk.out] using this)
      go_enter Try.func31, Try.ntmps31
      go_wp2_with fail
      refine (isSphere_any _ _).mono ?_
      rintro e w' ⟨rfl, rfl⟩
      rw [Hm.out]
      go_wp2_with fail
      refine (in_any _ _ _ _).mono ?_
      rintro e w' ⟨rfl, rfl⟩
      rw [Hk.out]
      go_wp2_with fail
      refine (isFactor_any _ _).mono ?_
      rintro e w' ⟨rfl, rfl⟩
      rw [Hd.out]
      go_wp2_with fail
      go_ret2
      exact RetLC.mk (k' := 2) rfl rfl OwnL.nil rfl (Below.refl _ _)
theorem sSphereBasis_yes (m s n : Int) (w : World) (h : sbokB m s n = true) : Calls Try.prog 30 #[.int .i64 m, .int .i64 s, .int .i64 n] w (RetLC (sbL m s n).length (sbL m s n) (sbC m s n) w) := by
  have hp : inB m 1 40 = true ∧ inB s 0 7 = true ∧ inB n 0 11 = true := by simpa [sbokB] using h
  have hm := inB_iff.1 hp.1
  have hk := inB_iff.1 hp.2.1
  have hd := inB_iff.1 hp.2.2
  have Hm := Lib.hid hp.1
  have Hk := Lib.hid hp.2.1
  have Hd := Lib.hid hp.2.2
  have hl : sbL m s n = lw s.toNat n.toNat (m - 1).toNat := by simp [sbL, h]
  have hc : sbC m s n = 0 := by simp [sbC, h]
  rw [hc]
  obtain ⟨ws, hws⟩ : ∃ ws, ws = sbL m s n := ⟨_, rfl⟩
  obtain ⟨ln, hln⟩ : ∃ ln, ln = ws.length := ⟨_, rfl⟩
  rw [← hws] at hl ⊢
  rw [← hln]
  have HW := Lib.hid hl.symm
  have HLn := Lib.hid hln.symm
  clear hp h hc hws hln hl
  go_enter Try.func30, Try.ntmps30
  go_wp2_with fail
  refine (l01In_any _ _ _ _).mono ?_
  rintro e w' ⟨rfl, rfl⟩
  rw [Hm.out]
  go_wp2_with fail
  refine (l01In_any _ _ _ _).mono ?_
  rintro e w' ⟨rfl, rfl⟩
  rw [Hk.out]
  go_wp2_with fail
  refine (l01In_any _ _ _ _).mono ?_
  rintro e w' ⟨rfl, rfl⟩
  rw [Hd.out]
  go_wp2_with fail
  refine (l16Basis_any m s n _ (by omega) (by omega) (by omega) (by omega) (by omega) (by omega)).mono ?_
  rintro e w1 ⟨A1, c1, rfl, ho1, hb1⟩
  rw [HW.out, HLn.out] at ho1 ⊢
  have HO1 := Lib.hid ho1
  have HB1 := Lib.hid hb1; clear ho1 hb1
  go_wp2_with fail
  go_ret2
  exact RetLC.mk (k' := 0) rfl rfl HO1.out rfl HB1.out
theorem iSphereBasis_yes (m s n : Int) (w : World) (h : sbokB m s n = true) : Calls Try.prog 31 #[.int .i64 m, .int .i64 s, .int .i64 n] w (RetLC (sbL m s n).length (sbL m s n) (sbC m s n) w) := by
  have hp : inB m 1 40 = true ∧ inB s 0 7 = true ∧ inB n 0 11 = true := by simpa [sbokB] using h
  have hm := inB_iff.1 hp.1
  have hk := inB_iff.1 hp.2.1
  have hd := inB_iff.1 hp.2.2
  have Hm := Lib.hid hp.1
  have Hk := Lib.hid hp.2.1
  have Hd := Lib.hid hp.2.2
  have hl : sbL m s n = lw s.toNat n.toNat (m - 1).toNat := by simp [sbL, h]
  have hc : sbC m s n = 0 := by simp [sbC, h]
  rw [hc]
  obtain ⟨ws, hws⟩ : ∃ ws, ws = sbL m s n := ⟨_, rfl⟩
  obtain ⟨ln, hln⟩ : ∃ ln, ln = ws.length := ⟨_, rfl⟩
  rw [← hws] at hl ⊢
  rw [← hln]
  have HW := Lib.hid hl.symm
  have HLn := Lib.hid hln.symm
  clear hp h hc hws hln hl
  go_enter Try.func31, Try.ntmps31
  go_wp2_with fail
  refine (isSphere_any _ _).mono ?_
  rintro e w' ⟨rfl, rfl⟩
  rw [Hm.out]
  go_wp2_with fail
  refine (in_any _ _ _ _).mono ?_
  rintro e w' ⟨rfl, rfl⟩
  rw [Hk.out]
  go_wp2_with fail
  refine (isFactor_any _ _).mono ?_
  rintro e w' ⟨rfl, rfl⟩
  rw [Hd.out]
  go_wp2_with fail
  refine (lambdaWords_any s.toNat s n (m - 1) _ rfl (by omega) (by omega) (by omega) (by omega) (by omega) (by omega)).mono ?_
  rintro e w1 ⟨A1, c1, rfl, ho1, hb1⟩
  rw [HW.out, HLn.out] at ho1 ⊢
  have HO1 := Lib.hid ho1
  have HB1 := Lib.hid hb1; clear ho1 hb1
  go_wp2_with fail
  go_ret2
  exact RetLC.mk (k' := 0) rfl rfl HO1.out rfl HB1.out

theorem SphereBasis_both (m s n : Int) (_wm : (Lit.int .i64 m).wf = true) (_ws : (Lit.int .i64 s).wf = true) (_wn : (Lit.int .i64 n).wf = true) : ∃ (r : Nat) (xs : List (List Int)) (c : Int), r ≤ 1000000000000 ∧ totalL xs ≤ 1000000000000 ∧
    (∀ w, Calls Try.prog 30 #[.int .i64 m, .int .i64 s, .int .i64 n] w (RetLC r xs c w)) ∧ (∀ w, Calls Try.prog 31 #[.int .i64 m, .int .i64 s, .int .i64 n] w (RetLC r xs c w)) := by
  refine ⟨(sbL m s n).length, sbL m s n, sbC m s n, ?_, ?_, ?_⟩
  · unfold sbL
    split
    · rename_i h
      have hp : inB m 1 40 = true ∧ inB s 0 7 = true ∧ inB n 0 11 = true := by simpa [sbokB] using h
      have := inB_iff.1 hp.2.1; have := inB_iff.1 hp.2.2
      exact Nat.le_trans (lw_bound _ _ _ (by omega) (by omega)) (by omega)
    · simp
  · unfold sbL
    split
    · rename_i h
      have hp : inB m 1 40 = true ∧ inB s 0 7 = true ∧ inB n 0 11 = true := by simpa [sbokB] using h
      have := inB_iff.1 hp.2.1; have := inB_iff.1 hp.2.2
      exact Nat.le_trans (lw_total _ _ _ (by omega) (by omega)) (by omega)
    · simp [totalL]
  · cases h : sbokB m s n
    · exact ⟨fun w => sSphereBasis_no m s n w h, fun w => iSphereBasis_no m s n w h⟩
    · exact ⟨fun w => sSphereBasis_yes m s n w h, fun w => iSphereBasis_yes m s n w h⟩
end Go.Proofs.Ytgoefodemjelaaa
