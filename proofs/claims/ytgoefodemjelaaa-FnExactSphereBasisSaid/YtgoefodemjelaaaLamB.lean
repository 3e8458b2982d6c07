/- LambdaBasis and SphereBasis on both sides. -/
import Derived.Test.YtgoefodemjelaaaWords
namespace Go.Proofs.Ytgoefodemjelaaa
open Go.RowKit
set_option linter.unusedVariables false

theorem l16Basis_any (m s n : Int) (w : World) (h0 : 0 ≤ s) (h7 : s ≤ 7) (hn0 : 0 ≤ n) (hn1 : n ≤ 11) (hm0 : 1 ≤ m) (hm1 : m ≤ 100) :
    Calls Try.prog 56 #[.int .i64 m, .int .i64 s, .int .i64 n] w (RetL (lw s.toNat n.toNat (m - 1).toNat).length (lw s.toNat n.toNat (m - 1).toNat) w) := by
  have HO := Lib.hid (own_empty w w.heap.size (Nat.le_refl _))
  have HL : Hid (OwnL (w.alloc (.cells #[] 2)) w.heap.size w.heap.size none 0 0 []) := Lib.hid OwnL.nil
  have HB := Lib.hid ((Below.refl w.heap.size w).alloc (Nat.le_refl _) (.cells #[] 2))
  obtain ⟨ws, hws⟩ : ∃ ws, ws = lw s.toNat n.toNat (m - 1).toNat := ⟨_, rfl⟩
  obtain ⟨ln, hln⟩ : ∃ ln, ln = ws.length := ⟨_, rfl⟩
  have HW := Lib.hid hws
  rw [← hws, ← hln]
  have HLn := Lib.hid hln
  have hp := Lib.hid (Nat.pow_le_pow_right (show 0 < 12 by omega) (show s.toNat ≤ 7 by omega))
  clear hws hln
  go_enter Try.func56, Try.ntmps56
  go_wp2_with fail
  refine (l16Words_any s.toNat s n (m - 1) _ none 0 0 0 0 w.heap.size w.heap.size [] [] _ rfl h0 h7 hn0 hn1 (by omega) (by omega) HO.out HL.out (Nat.le_refl _) (by simp) (by omega) (by have := hp.out; omega)).mono ?_
  rintro e w1 ⟨A1, c1, rfl, ho1, hg1, _⟩
  rw [← HW.out] at ho1 ⊢
  rw [← HLn.out] at ho1 ⊢
  have HO1 := Lib.hid ho1
  have HB1 := Lib.hid (HB.out.trans ((Below.refl w.heap.size _).grown hg1 (by simp) (by intro g hg; cases hg))); clear ho1 hg1
  go_wp2_with fail
  go_ret
  exact ⟨_, _, rfl, by simpa using HO1.out, HB1.out⟩

theorem isFactor_any (n : Int) (w : World) : Calls Try.prog 57 #[.int .i64 n] w (RetP (inB n 0 11) w) := by
  go_enter Try.func57, Try.ntmps57
  go_wp2_with fail
  refine (in_any _ _ _ _).mono ?_
  rintro e w' ⟨rfl, rfl⟩
  go_wp2_with fail
  go_ret
  exact RetP.mk rfl

def lbokB (s n : Int) : Bool := inB s 0 7 && inB n 0 11
def lbL (s n : Int) : List (List Int) := if lbokB s n = true then lw s.toNat n.toNat n.toNat else []
def lbC (s n : Int) : Int := if lbokB s n = true then 0 else 2

theorem sLambdaBasis_no (s n : Int) (w : World) (h : lbokB s n = false) : Calls Try.prog 25 #[.int .i64 s, .int .i64 n] w (RetLC (lbL s n).length (lbL s n) (lbC s n) w) := by
  have hl : lbL s n = [] := by simp [lbL, h]
  have hc : lbC s n = 2 := by simp [lbC, h]
  rw [hl, hc]
  have Hp := Lib.hid h; clear h hl hc
  cases hk : inB s 0 7
  · have Hk := Lib.hid hk; clear hk
    go_enter Try.func25, Try.ntmps25
    go_wp2_with fail
    refine (l01In_any _ _ _ _).mono ?_
    rintro e w' ⟨rfl, rfl⟩
    rw [Hk.out]
    go_wp2_with fail
    go_ret2
    exact RetLC.mk (k' := 2) rfl rfl OwnL.nil rfl (Below.refl _ _)
  · have Hk := Lib.hid hk; clear hk
    have Hd : Hid (inB n 0 11 = false) := Lib.hid (by have := Hp.out; simpa [lbokB, Hk.out] using this)
    go_enter Try.func25, Try.ntmps25
    go_wp2_with fail
    refine (l01In_any _ _ _ _).mono ?_
    rintro e w' ⟨rfl, rfl⟩
    rw [Hk.out]
    go_wp2_with fail
    refine (l01In_any _ _ _ _).mono ?_
    rintro e w' ⟨rfl, rfl⟩
    rw [Hd.out]
    go_wp2_with fail
    go_ret2
    exact RetLC.mk (k' := 2) rfl rfl OwnL.nil rfl (Below.refl _ _)
theorem iLambdaBasis_no (s n : Int) (w : World) (h : lbokB s n = false) : Calls Try.prog 26 #[.int .i64 s, .int .i64 n] w (RetLC (lbL s n).length (lbL s n) (lbC s n) w) := by
  have hl : lbL s n = [] := by simp [lbL, h]
  have hc : lbC s n = 2 := by simp [lbC, h]
  rw [hl, hc]
  have Hp := Lib.hid h; clear h hl hc
  cases hk : inB s 0 7
  · have Hk := Lib.hid hk; clear hk
    go_enter Try.func26, Try.ntmps26
    go_wp2_with fail
    refine (in_any _ _ _ _).mono ?_
    rintro e w' ⟨rfl, rfl⟩
    rw [Hk.out]
    go_wp2_with fail
    go_ret2
    exact RetLC.mk (k' := 2) rfl rfl OwnL.nil rfl (Below.refl _ _)
  · have Hk := Lib.hid hk; clear hk
    have Hd : Hid (inB n 0 11 = false) := Lib.hid (by have := Hp.out; simpa [lbokB, Hk.out] using this)
    go_enter Try.func26, Try.ntmps26
    go_wp2_with fail
    refine (in_any _ _ _ _).mono ?_
    rintro e w' ⟨rfl, rfl⟩
    rw [Hk.out]
    go_wp2_with fail
    refine (isFactor_any _ _).mono ?_
    rintro e w' ⟨rfl, rfl⟩
    rw [Hd.out]
    go_wp2_with fail
    go_ret2
    exact RetLC.mk (k' := 2) rfl rfl OwnL.nil rfl (Below.refl _ _)
theorem sLambdaBasis_yes (s n : Int) (w : World) (h : lbokB s n = true) : Calls Try.prog 25 #[.int .i64 s, .int .i64 n] w (RetLC (lbL s n).length (lbL s n) (lbC s n) w) := by
  have hp : inB s 0 7 = true ∧ inB n 0 11 = true := by simpa [lbokB] using h
  have hk := inB_iff.1 hp.1
  have hd := inB_iff.1 hp.2
  have Hk := Lib.hid hp.1
  have Hd := Lib.hid hp.2
  have hl : lbL s n = lw s.toNat n.toNat ((40 : Int) - 1).toNat := by rw [lw_wide _ _ _ (show n.toNat ≤ ((40 : Int) - 1).toNat by omega)]; simp [lbL, h]
  have hc : lbC s n = 0 := by simp [lbC, h]
  rw [hc]
  obtain ⟨ws, hws⟩ : ∃ ws, ws = lbL s n := ⟨_, rfl⟩
  obtain ⟨ln, hln⟩ : ∃ ln, ln = ws.length := ⟨_, rfl⟩
  rw [← hws] at hl ⊢
  rw [← hln]
  have HW := Lib.hid hl.symm
  have HLn := Lib.hid hln.symm
  clear hp h hc hws hln hl
  go_enter Try.func25, Try.ntmps25
  go_wp2_with fail
  refine (l01In_any _ _ _ _).mono ?_
  rintro e w' ⟨rfl, rfl⟩
  rw [Hk.out]
  go_wp2_with fail
  refine (l01In_any _ _ _ _).mono ?_
  rintro e w' ⟨rfl, rfl⟩
  rw [Hd.out]
  go_wp2_with fail
  refine (l16Basis_any 40 s n _ (by omega) (by omega) (by omega) (by omega) (by omega) (by omega)).mono ?_
  rintro e w1 ⟨A1, c1, rfl, ho1, hb1⟩
  rw [HW.out, HLn.out] at ho1 ⊢
  have HO1 := Lib.hid ho1
  have HB1 := Lib.hid hb1; clear ho1 hb1
  go_wp2_with fail
  go_ret2
  exact RetLC.mk (k' := 0) rfl rfl HO1.out rfl HB1.out
theorem iLambdaBasis_yes (s n : Int) (w : World) (h : lbokB s n = true) : Calls Try.prog 26 #[.int .i64 s, .int .i64 n] w (RetLC (lbL s n).length (lbL s n) (lbC s n) w) := by
  have hp : inB s 0 7 = true ∧ inB n 0 11 = true := by simpa [lbokB] using h
  have hk := inB_iff.1 hp.1
  have hd := inB_iff.1 hp.2
  have Hk := Lib.hid hp.1
  have Hd := Lib.hid hp.2
  have hl : lbL s n = lw s.toNat n.toNat n.toNat := by simp [lbL, h]
  have hc : lbC s n = 0 := by simp [lbC, h]
  rw [hc]
  obtain ⟨ws, hws⟩ : ∃ ws, ws = lbL s n := ⟨_, rfl⟩
  obtain ⟨ln, hln⟩ : ∃ ln, ln = ws.length := ⟨_, rfl⟩
  rw [← hws] at hl ⊢
  rw [← hln]
  have HW := Lib.hid hl.symm
  have HLn := Lib.hid hln.symm
  clear hp h hc hws hln hl
  go_enter Try.func26, Try.ntmps26
  go_wp2_with fail
  refine (in_any _ _ _ _).mono ?_
  rintro e w' ⟨rfl, rfl⟩
  rw [Hk.out]
  go_wp2_with fail
  refine (isFactor_any _ _).mono ?_
  rintro e w' ⟨rfl, rfl⟩
  rw [Hd.out]
  go_wp2_with fail
  refine (lambdaWords_any s.toNat s n n _ rfl (by omega) (by omega) (by omega) (by omega) (by omega) (by omega)).mono ?_
  rintro e w1 ⟨A1, c1, rfl, ho1, hb1⟩
  rw [HW.out, HLn.out] at ho1 ⊢
  have HO1 := Lib.hid ho1
  have HB1 := Lib.hid hb1; clear ho1 hb1
  go_wp2_with fail
  go_ret2
  exact RetLC.mk (k' := 0) rfl rfl HO1.out rfl HB1.out

theorem LambdaBasis_both (s n : Int) (_ws : (Lit.int .i64 s).wf = true) (_wn : (Lit.int .i64 n).wf = true) : ∃ (m : Nat) (xs : List (List Int)) (c : Int), m ≤ 1000000000000 ∧ totalL xs ≤ 1000000000000 ∧
    (∀ w, Calls Try.prog 25 #[.int .i64 s, .int .i64 n] w (RetLC m xs c w)) ∧ (∀ w, Calls Try.prog 26 #[.int .i64 s, .int .i64 n] w (RetLC m xs c w)) := by
  refine ⟨(lbL s n).length, lbL s n, lbC s n, ?_, ?_, ?_⟩
  · unfold lbL
    split
    · rename_i h
      have hp : inB s 0 7 = true ∧ inB n 0 11 = true := by simpa [lbokB] using h
      have := inB_iff.1 hp.1; have := inB_iff.1 hp.2
      exact Nat.le_trans (lw_bound _ _ _ (by omega) (by omega)) (by omega)
    · simp
  · unfold lbL
    split
    · rename_i h
      have hp : inB s 0 7 = true ∧ inB n 0 11 = true := by simpa [lbokB] using h
      have := inB_iff.1 hp.1; have := inB_iff.1 hp.2
      exact Nat.le_trans (lw_total _ _ _ (by omega) (by omega)) (by omega)
    · simp [totalL]
  · cases h : lbokB s n
    · exact ⟨fun w => sLambdaBasis_no s n w h, fun w => iLambdaBasis_no s n w h⟩
    · exact ⟨fun w => sLambdaBasis_yes s n w h, fun w => iLambdaBasis_yes s n w h⟩
end Go.Proofs.Ytgoefodemjelaaa
