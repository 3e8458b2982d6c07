/- The law FnExactIsLambda, over what both sides answer. -/
import Derived.Test.YthaokhjkibbplaaIsLam
import Derived.Test.YthaokhjkibbplaaLamT
import Derived.Deep.RegionHeld3
namespace Go.Proofs.Ythaokhjkibbplaa
open Go.RowKit
set_option linter.unusedVariables false

theorem isLB_asc {xss : List (List Int)} (h : isLB xss = true) : Asc xss := by
  simp only [isLB, Bool.and_eq_true] at h
  exact asc_risB.1 h.1.1.1.2
theorem sIsLambda (A : Option Addr) (n c : Nat) (xss : List (List Int)) (w : World) (h : RdL w w.heap.size A n c xss) (hn : n ≤ 2000000) (ht : totalL xss ≤ 2000000) :
    Calls Try.prog 9 #[.agg #[.slice A n c]] w (RetBb (isLB xss) w) := by
  have hb0 : Below w.heap.size w (w.alloc (.cells #[.slice A n c] 27)) := (Below.refl _ _).alloc (Nat.le_refl _) _
  have H := Lib.hid (l16Is_any A n c _ xss _ (h.below hb0) hn ht); clear h
  have Hb0 := Lib.hid hb0; clear hb0
  go_enter Try.func9, Try.ntmps9
  go_wp2_with fail
  refine H.out.mono ?_
  rintro e w1 ⟨rfl, q, rfl⟩
  go_wp2_with fail
  go_ret
  exact RetBb.mk rfl (below_drewN Hb0.out q)

theorem coreIsLambda (A : Option Addr) (n c : Nat) (xss : List (List Int)) (w : World) (h : RdL w w.heap.size A n c xss) (hs : n + totalL xss ≤ 1048576) (hx : ∀ x ∈ xss, x.length ≤ 9223372036854775807) :
    Calls Try.prog 3 #[.agg #[.slice A n c]] w fun e w' => e = .returned (.bool true) ∧ Below w.heap.size w w' := by
  obtain ⟨w0, hw0⟩ : ∃ w0, w0 = w.alloc (.cells #[.slice A n c] 24) := ⟨_, rfl⟩
  have hb0 : Below w.heap.size w w0 := by rw [hw0]; exact (Below.refl _ _).alloc (Nat.le_refl _) _
  have h0 := h.below hb0
  have hk0 : w0.cell? ⟨w.heap.size, 0, none⟩ = some (.slice A n c) := by rw [hw0]; simp
  have hz0 : w.heap.size < w0.heap.size := by rw [hw0]; simp
  have Hw := Lib.hid hw0; clear hw0
  have H0 := Lib.hid h0; clear h0 h
  have Hb0 := Lib.hid hb0; clear hb0
  have HX := Lib.hid hx; clear hx
  have Hk0 := Lib.hid hk0; clear hk0
  have Hz0 := Lib.hid hz0; clear hz0
  obtain ⟨b, hb⟩ : ∃ b, b = w.heap.size := ⟨_, rfl⟩
  rw [← hb] at Hk0 Hz0
  have Hbb := Lib.hid hb
  obtain ⟨r, hr⟩ : ∃ r, r = isLB xss := ⟨_, rfl⟩
  have HR := Lib.hid hr
  clear hr hb
  go_enter Try.func3, Try.ntmps3
  go_wp2_with fail
  rw [← Hw.out, ← Hbb.out]
  have k0 := Hk0.out
  refine (szLambda_any A c n w.heap.size xss w0 1048576 H0.out (by rw [← Hbb.out]; exact Nat.le_of_lt Hz0.out) (by omega) (by omega) (by omega) HX.out).mono ?_
  rintro e w1 ⟨rfl, hb1⟩
  rw [show szR 1048576 (n + totalL xss) = 1048576 - ((n + totalL xss : Nat) : Int) from by unfold szR; rw [if_neg (by omega)]]
  have k1 := bcell hb1 Hz0.out k0
  have B1 := Lib.hid hb1
  clear k0 hb1
  go_wp2_with fail
  refine (toLambda_any A c n xss w1 (((H0.out.mono (by rw [← Hbb.out]; exact Nat.le_of_lt Hz0.out)).below B1.out).mono B1.out.size) (by omega) (by omega)).mono ?_
  rintro e w2 ⟨A2, c2, rfl, ho2, hb2⟩
  have R2 := Lib.hid ho2.own.rd
  have B2 := Lib.hid (B1.out.trans (hb2.mono B1.out.size))
  have k2 := bcell B2.out Hz0.out Hk0.out
  clear k1 ho2 hb2
  go_wp2_with fail
  refine (sIsLambda A2 n c2 xss w2 R2.out (by omega) (by omega)).mono ?_
  rintro e w3 ⟨rfl, hb3⟩
  rw [← HR.out]
  have B3 := Lib.hid (B2.out.trans (hb3.mono B2.out.size))
  have k3 := bcell B3.out Hz0.out Hk0.out
  clear k2 hb3
  go_wp2_with fail
  refine (toLambda_any A c n xss w3 (((H0.out.mono (by rw [← Hbb.out]; exact Nat.le_of_lt Hz0.out)).below B3.out).mono B3.out.size) (by omega) (by omega)).mono ?_
  rintro e w4 ⟨A4, c4, rfl, ho4, hb4⟩
  obtain ⟨w5, hw5⟩ : ∃ w5, w5 = w4.alloc (.cells #[.slice A4 n c4] 27) := ⟨_, rfl⟩
  have hb5 : Below w4.heap.size w4 w5 := by rw [hw5]; exact (Below.refl _ _).alloc (Nat.le_refl _) _
  obtain ⟨b5, hb5e⟩ : ∃ b5, b5 = w4.heap.size := ⟨_, rfl⟩
  have kx : w5.cell? ⟨b5, 0, none⟩ = some (.slice A4 n c4) := by rw [hw5, hb5e]; simp
  have zx : b5 < w5.heap.size := by rw [hw5, hb5e]; simp
  have R5 := Lib.hid ((ho4.own.rd.below hb5).mono hb5.size)
  have B5 := Lib.hid ((B3.out.trans (hb4.mono B3.out.size)).trans (hb5.mono (Nat.le_trans B3.out.size hb4.size)))
  have k5 := bcell B5.out Hz0.out Hk0.out
  have W5 := Lib.hid hw5
  have E5 := Lib.hid hb5e
  have Kx := Lib.hid kx
  have Zx := Lib.hid zx
  clear k3 ho4 hb4 hb5 hw5 hb5e zx
  go_wp2_with fail
  rw [← W5.out, ← E5.out]
  go_wp2_with fail
  refine (iIsLambda A4 n c4 xss w5 R5.out (by omega) (by omega)).mono ?_
  rintro e w6 ⟨rfl, hb6⟩
  rw [← HR.out]
  have B6 := Lib.hid (B5.out.trans (hb6.mono B5.out.size))
  have kb := bcell B6.out Hz0.out Hk0.out
  have kx6 := bcell hb6 Zx.out Kx.out
  have R6 := Lib.hid ((R5.out.below hb6).mono hb6.size)
  have Zx6 := Lib.hid (Nat.lt_of_lt_of_le Zx.out hb6.size)
  clear k5 kx hb6
  go_wp2_with fail
  have H6 := Lib.hid ((((H0.out.mono (by rw [← Hbb.out]; exact Nat.le_of_lt Hz0.out)).below B6.out).mono B6.out.size).drewN 1)
  have R6d := Lib.hid (R6.out.drewN 1)
  have B6d := Lib.hid (below_drewN B6.out 1)
  have X6 := Lib.hid (And.intro Zx6.out (Nat.lt_of_lt_of_le Hz0.out B6.out.size))
  go_region_held3 (fun w' => w'.cell? ⟨b5, 0, none⟩ = some (.slice A4 n c4) ∧ w'.cell? ⟨b, 0, none⟩ = some (.slice A n c)) (first | exact ⟨kx6, kb⟩ | exact ⟨kx8, kb8⟩ | exact ⟨kx9, kb9⟩)
    (first
      | (go_at_call 10
         refine (toLambda_any A c n xss _ H6.out (by omega) (by omega)).mono ?_
         rintro e w8 ⟨A8, c8, rfl, ho8, hb8⟩
         have kx8 := bcell hb8 X6.out.1 kx6
         have kb8 := bcell hb8 X6.out.2 kb
         have R8 := Lib.hid ho8.own.rd
         have R6e := Lib.hid (R6d.out.below hb8)
         have B8 := Lib.hid (B6d.out.trans (hb8.mono B6d.out.size))
         have S8 := Lib.hid hb8.size
         have X8 := Lib.hid (And.intro (Nat.lt_of_lt_of_le X6.out.1 hb8.size) (Nat.lt_of_lt_of_le X6.out.2 hb8.size))
         clear ho8 hb8)
      | (go_at_call 12
         refine (eqLambda_any A4 A8 c4 c8 n n xss xss _ _ _ R6e.out R8.out S8.out (Nat.le_refl _) (by omega) (by omega) (by omega) (by omega)).mono ?_
         rintro e w9 ⟨rfl, hb9⟩
         have kx9 := bcell hb9 X8.out.1 kx8
         have kb9 := bcell hb9 X8.out.2 kb8
         have B9 := Lib.hid (B8.out.trans (hb9.mono B8.out.size))
         clear hb9
         rw [decide_eq_true (rfl : xss = xss)]))
  go_wp2_with fail
  go_ret
  exact ⟨rfl, Hb0.out.trans (B9.out.mono Hb0.out.size)⟩

theorem bigIsLambda (A : Option Addr) (n c B : Nat) (xss : List (List Int)) (w : World) (h : RdL w B A n c xss) (hB : B ≤ w.heap.size) (hs : ¬ n + totalL xss ≤ 1048576) (hn : n ≤ 9223372036854775807) (hx : ∀ x ∈ xss, x.length ≤ 9223372036854775807) :
    Calls Try.prog 3 #[.agg #[.slice A n c]] w fun e w' => e = .returned (.bool true) ∧ Below w.heap.size w w' := by
  have hb0 : Below w.heap.size w (w.alloc (.cells #[.slice A n c] 24)) := (Below.refl _ _).alloc (Nat.le_refl _) _
  have Hsz := Lib.hid (szLambda_any A c n B xss _ 1048576 (h.below (hb0.mono hB)) (Nat.le_trans hB hb0.size) (by omega) (by omega) hn hx)
  have Hb0 := Lib.hid hb0; clear hb0 h hx
  rw [show szR 1048576 (n + totalL xss) = -1 from by unfold szR; rw [if_pos (by omega)]] at Hsz
  go_enter Try.func3, Try.ntmps3
  go_wp2_with fail
  refine Hsz.out.mono ?_
  rintro e w1 ⟨rfl, hb1⟩
  have B1 := Lib.hid hb1; clear hb1
  go_wp2_with fail
  go_ret
  exact ⟨rfl, Hb0.out.trans (B1.out.mono Hb0.out.size)⟩
end Go.Proofs.Ythaokhjkibbplaa
