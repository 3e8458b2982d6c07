/- The walk of FnLambda. -/
import Derived.Test.YtgmbbpaokcjnhaaGreatDoorDrm
import Derived.Test.YtgmbbpaokcjnhaaGreatDoorDic
import Derived.Test.YtgmbbpaokcjnhaaGreatDoorLwh
import Derived.Test.YtgmbbpaokcjnhaaGreatDoorLmL
import Derived.Test.YtgmbbpaokcjnhaaGreatDoorFormL
import Derived.Test.YtgmbbpaokcjnhaaGreatDoorDifO
import Derived.Test.YtgmbbpaokcjnhaaGreatDoorTxtM
import Derived.Lib.QuietBelow
import Derived.Deep.DeepCutAuto
namespace Go.Proofs.YtgmbbpaokcjnhaaGreatDoor
open Go.RowKit
set_option linter.unusedVariables false

theorem lambda9_any (A1 A2 : Option Addr) (c1 c2 n m : Nat) (xs ys : List (List Int)) (w : World) (B1 B2 : Nat)
   (h1 : RdL w B1 A1 n c1 xs) (h2 : RdL w B2 A2 m c2 ys) (hB1 : B1 ≤ w.heap.size) (hB2 : B2 ≤ w.heap.size) (hb1 : n ≤ 1000000000000) (hb2 : m ≤ 1000000000000) (ht1 : totalL xs ≤ 1000000000000) (ht2 : totalL ys ≤ 1000000000000) :
    Calls Tryz.prog 8 #[.agg #[.slice A1 n c1], .agg #[.slice A2 m c2]] w (RetBb (decide (xs = ys)) w) := by
  have hb0 : Below w.heap.size w ((w.alloc (.cells #[.slice A1 n c1] 26)).alloc (.cells #[.slice A2 m c2] 26)) := ((Below.refl _ _).alloc (Nat.le_refl _) _).alloc (by simp) _
  have H := Lib.hid (same9_any A1 A2 c1 c2 n m xs ys _ B1 B2 (h1.below (hb0.mono hB1)) (h2.below (hb0.mono hB2)) hb1 hb2 ht1 ht2); clear h1 h2
  have Hb0 := Lib.hid hb0; clear hb0
  go_enter Tryz.func8, Tryz.ntmps8
  go_wp2_with fail
  refine H.out.mono ?_
  rintro e w1 ⟨rfl, q, rfl⟩
  go_wp2_with fail
  go_ret
  exact RetBb.mk rfl (below_drewN Hb0.out q)
/-- a box with a list of lists that reads -/
structure BoxL (w : World) (q : Nat) (A : Option Addr) (n c : Nat) (xss : List (List Int)) : Prop where
  cs : Cells [(q, 0, .slice A n c)] w
  rd : RdL w w.heap.size A n c xss
theorem BoxL.ext {w w' : World} {q : Nat} {A : Option Addr} {n c : Nat} {xss : List (List Int)} (h : BoxL w q A n c xss) (hb : Ext w w') : BoxL w' q A n c xss := ⟨h.cs.below hb, (h.rd.below hb).mono hb.size⟩
theorem BoxL.c0 {w : World} {q : Nat} {A : Option Addr} {n c : Nat} {xss : List (List Int)} (h : BoxL w q A n c xss) : w.cell? ⟨q, 0, none⟩ = some (.slice A n c) := h.cs.at_ (by simp)
theorem BoxL.lt {w : World} {q : Nat} {A : Option Addr} {n c : Nat} {xss : List (List Int)} (h : BoxL w q A n c xss) : q < w.heap.size := h.cs.lt (q, 0, .slice A n c) (by simp)
theorem BoxL.new {w : World} {q : Nat} {A : Option Addr} {n c : Nat} {xss : List (List Int)} (h : RdL w w.heap.size A n c xss) (T : TypeId) (hq : q = w.heap.size) : BoxL (w.alloc (.cells #[.slice A n c] T)) q A n c xss :=
  ⟨Cells.alloc1' _ _ hq, (h.below ((Below.refl _ _).alloc (Nat.le_refl _) _)).mono (by simp)⟩
theorem addO_bounds (a b : List (List Int)) : (addO a b).2.length ≤ 75582 ∧ totalL (addO a b).2 ≤ 529074 := by
  unfold addO
  split
  · split
    · simp [totalL]
    · split
      · rename_i h0 _ h
        rw [Bool.and_eq_true] at h0
        refine ⟨by simp only; omega, ?_⟩
        have := totalL_le (oddL (a ++ b)) 7 fun r hr => by
          rcases List.mem_append.1 (oddL_mem hr) with h1 | h1
          · exact (isLB_okW h0.1 r h1).1
          · exact (isLB_okW h0.2 r h1).1
        simp only
        omega
      · simp [totalL]
  · simp [totalL]

theorem form_inv {f m : List (List Int)} {k : Int} (h : formO f = (k, m)) : ∀ x ∈ m, okW x ∧ admB x = true := by
  cases hf : isLB f
  · rw [formO_bad hf] at h
    injection h with _ h
    subst h
    intro x hx; cases hx
  · rw [formO_ok hf] at h
    injection h with _ h
    subst h
    intro x hx
    have := form_all (isLB_all hf) x hx
    exact ⟨this.1, this.2.2.2⟩

set_option maxRecDepth 100000 in
set_option maxHeartbeats 8000000 in
theorem lawLambda (A : Option Addr) (n c : Nat) (w : World) (hM : MaxL w) (h : RdB w w.heap.size A n c) :
    Calls Tryz.prog 3 #[.slice A n c] w fun e w' => e = .returned (.bool true) ∧ Below w.heap.size w w' := by
  obtain ⟨R, hR⟩ : ∃ R : Ending → World → Prop, R = fun e w' => e = .returned (.bool true) ∧ Below w.heap.size w w' := ⟨_, rfl⟩
  have HR := Lib.hid hR
  have HMx := Lib.hid hM
  rw [← hR]
  clear hR hM
  go_enter Tryz.func3, Tryz.ntmps3
  go_wp2_with fail
  refine (bigLaw_any A n c w).mono ?_
  rintro e w1 ⟨rfl, hw1⟩
  obtain rfl := hw1.symm
  by_cases hn : 4096 < n
  · rw [decide_eq_true hn]
    go_wp2_with fail
    rw [HR.out]
    exact ⟨rfl, Below.refl _ _⟩
  rw [decide_eq_false hn]
  have hN : n ≤ 4096 := by omega
  clear hn
  go_wp2_with fail
  have HB : Hid (From w w) := Lib.hid ⟨Ext.refl w⟩
  refine (drawMultiplyLambda_any A n c w ((h.below HB.out.b).mono HB.out.b.size) hN).mono ?_
  rintro e w2 ⟨A1, n1, c1, xa, A2, n2, c2, xb, rfl, hrxa, hrxb, hn1, htxa, hn2, htxb, hb⟩
  replace HB := Lib.hid (HB.out.ext hb)
  clear hb
  have PA := Lib.hid (BoxL.new (hrxa) 26 rfl)
  obtain ⟨w3, hw3⟩ : ∃ W, W = w2.alloc (.cells #[.slice A1 n1 c1] 26) := ⟨_, rfl⟩
  obtain ⟨q1, hq1⟩ : ∃ q, q = w2.heap.size := ⟨_, rfl⟩
  rw [← hw3, ← hq1] at PA
  have ew3 : Ext w2 w3 := by rw [hw3]; exact (Ext.refl _).alloc _
  have PB := Lib.hid (BoxL.new (w := w3) ((hrxb).below ew3 |>.mono ew3.size) 26 rfl)
  obtain ⟨w4, hw4⟩ : ∃ W, W = w3.alloc (.cells #[.slice A2 n2 c2] 26) := ⟨_, rfl⟩
  obtain ⟨q2, hq2⟩ : ∃ q, q = w3.heap.size := ⟨_, rfl⟩
  rw [← hw4, ← hq2] at PB
  have ew4 : Ext w3 w4 := by rw [hw4]; exact (Ext.refl _).alloc _
  have hsw4 : w3.heap.size = q1 + 1 := by rw [hw3, hq1]; simp
  replace PA := Lib.hid (PA.out.ext ew4)
  replace HB := Lib.hid (HB.out.ext (Ext.trans ew3 ew4))
  have Hw3 := Lib.hid hw3
  have Hq1 := Lib.hid hq1
  have Hw4 := Lib.hid hw4
  have Hq2 := Lib.hid (hq2.trans hsw4)
  clear hw3 hq1 ew3 hw4 hq2 ew4 hsw4
  go_wp2_with fail
  rw [← Hw3.out, ← Hw4.out, ← Hq1.out, ← Hq2.out]
  clear hrxa hrxb
  obtain ⟨o, ho⟩ : ∃ o, o = mulO xa xb := ⟨_, rfl⟩
  obtain ⟨k1, xp⟩ := o
  have HO1 := Lib.hid ho.symm
  clear ho
  have hyxp : xp.length ≤ 75582 ∧ totalL xp ≤ 529074 := by have hh := mulO_bounds xa xb; rw [HO1.out] at hh; exact hh
  refine (show Calls Tryz.prog 6 #[.agg #[.slice A1 n1 c1], .agg #[.slice A2 n2 c2]] _ (RetMC xp.length xp k1 _) from by have hc := iMultiplyLambda A1 A2 (n1) c1 (n2) c2 xa xb _ PA.out.rd PB.out.rd (by omega) (by omega) (by omega) (by omega); rw [HO1.out] at hc; exact hc).mono ?_
  rintro e w5 ⟨A3, c3, rfl, ho, hb⟩
  replace HB := Lib.hid (HB.out.ext hb)
  replace PA := Lib.hid (PA.out.ext hb)
  replace PB := Lib.hid (PB.out.ext hb)
  have hrxp := ho.own.rd
  clear ho hb
  have PP := Lib.hid (BoxL.new (hrxp) 26 rfl)
  obtain ⟨w6, hw6⟩ : ∃ W, W = w5.alloc (.cells #[.slice A3 xp.length c3] 26) := ⟨_, rfl⟩
  obtain ⟨q3, hq3⟩ : ∃ q, q = w5.heap.size := ⟨_, rfl⟩
  rw [← hw6, ← hq3] at PP
  have ew6 : Ext w5 w6 := by rw [hw6]; exact (Ext.refl _).alloc _
  have xPA0 := PA.out.c0
  have xPAl := PA.out.lt
  have xPB0 := PB.out.c0
  have xPBl := PB.out.lt
  replace HB := Lib.hid (HB.out.ext ew6)
  replace PA := Lib.hid (PA.out.ext ew6)
  replace PB := Lib.hid (PB.out.ext ew6)
  have Hw6 := Lib.hid hw6
  have Hq3 := Lib.hid hq3
  clear hw6 hq3 ew6
  go_wp2_with fail
  clear xPA0 xPAl xPB0 xPBl
  rw [← Hw6.out, ← Hq3.out]
  clear hrxp
  refine (show Calls Tryz.prog 7 #[.agg #[.slice A1 n1 c1], .agg #[.slice A2 n2 c2]] _ (RetMC xp.length xp k1 _) from by have hc := sMultiplyLambda A1 A2 (n1) c1 (n2) c2 xa xb _ PA.out.rd PB.out.rd (by omega) (by omega) (by omega) (by omega); rw [HO1.out] at hc; exact hc).mono ?_
  rintro e w7 ⟨A4, c4, rfl, ho, hb⟩
  replace HB := Lib.hid (HB.out.ext hb)
  replace PA := Lib.hid (PA.out.ext hb)
  replace PB := Lib.hid (PB.out.ext hb)
  replace PP := Lib.hid (PP.out.ext hb)
  have hrxp := ho.own.rd
  clear ho hb
  have PQ := Lib.hid (BoxL.new (hrxp) 26 rfl)
  obtain ⟨w8, hw8⟩ : ∃ W, W = w7.alloc (.cells #[.slice A4 xp.length c4] 26) := ⟨_, rfl⟩
  obtain ⟨q4, hq4⟩ : ∃ q, q = w7.heap.size := ⟨_, rfl⟩
  rw [← hw8, ← hq4] at PQ
  have ew8 : Ext w7 w8 := by rw [hw8]; exact (Ext.refl _).alloc _
  have xPA0 := PA.out.c0
  have xPAl := PA.out.lt
  have xPB0 := PB.out.c0
  have xPBl := PB.out.lt
  have xPP0 := PP.out.c0
  have xPPl := PP.out.lt
  replace HB := Lib.hid (HB.out.ext ew8)
  replace PA := Lib.hid (PA.out.ext ew8)
  replace PB := Lib.hid (PB.out.ext ew8)
  replace PP := Lib.hid (PP.out.ext ew8)
  have Hw8 := Lib.hid hw8
  have Hq4 := Lib.hid hq4
  clear hw8 hq4 ew8
  go_wp2_with fail
  clear xPA0 xPAl xPB0 xPBl xPP0 xPPl
  rw [← Hw8.out, ← Hq4.out]
  clear hrxp
  obtain ⟨t1, ht1⟩ : ∃ t, t = isLB xa := ⟨_, rfl⟩
  have HT1 := Lib.hid ht1
  clear ht1
  have HC1 := fun (W : World) (hW : Below w8.heap.size w8 W) => Lib.hid (show Calls Tryz.prog 8 #[.agg #[.slice A3 xp.length c3], .agg #[.slice A4 xp.length c4]] W (RetBb true W) from by
    have hc := lambda9_any A3 A4 c3 c4 xp.length xp.length xp xp W _ _ ((PP.out.rd.below hW).mono hW.size) ((PQ.out.rd.below hW).mono hW.size) (Nat.le_refl _) (Nat.le_refl _) (by omega) (by omega) (by omega) (by omega)
    rwa [show decide (xp = xp) = true from by simp] at hc)
  have HC2 := fun (W : World) (hW : Below w8.heap.size w8 W) => Lib.hid (show Calls Tryz.prog 9 #[.agg #[.slice A1 n1 c1]] W (RetBb t1 W) from by
    have hc := iIsLambda A1 n1 c1 xa W ((PA.out.rd.below hW).mono hW.size) (by omega) (by omega)
    rwa [← HT1.out] at hc)
  have HC3 := fun (W : World) (hW : Below w8.heap.size w8 W) => Lib.hid (show Calls Tryz.prog 10 #[.agg #[.slice A1 n1 c1]] W (RetBb t1 W) from by
    have hc := sIsLambda A1 n1 c1 xa W ((PA.out.rd.below hW).mono hW.size) (by omega) (by omega)
    rwa [← HT1.out] at hc)
  have hnk1 : (k1 != k1) = false := by simp
  have hnt1 : (t1 != t1) = false := by simp
  have g1 := cell_regrown PA.out.c0
  have g3 := cell_regrown PP.out.c0
  have g4 := cell_regrown PQ.out.c0
  refine wp_region_quiet_below (by kernel_rfl) (by kernel_rfl) ?_
  repeat (go_big_quiet_step ((first | (go_at_call 8; exact Calls.regrown_of ((HC1 _ (below_regrown _ _ _)).out)) | (go_at_call 9; exact Calls.regrown_of ((HC2 _ (below_regrown _ _ _)).out)) | (go_at_call 10; exact Calls.regrown_of ((HC3 _ (below_regrown _ _ _)).out)))))
  refine wpQuiet_nil ?_
  intro _ hw'
  obtain ⟨⟨dq, osq⟩, hw''⟩ := hw'
  subst hw''
  have hb := below_regrown w8 dq osq
  obtain ⟨w9, hwq⟩ : ∃ W, W = Sort.grow (redrawn w8 dq) osq := ⟨_, rfl⟩
  rw [← hwq] at hb ⊢
  clear hwq
  replace HB := Lib.hid (HB.out.ext hb)
  replace PA := Lib.hid (PA.out.ext hb)
  replace PB := Lib.hid (PB.out.ext hb)
  replace PP := Lib.hid (PP.out.ext hb)
  replace PQ := Lib.hid (PQ.out.ext hb)
  clear hb g1 g3 g4 HC1 HC2 HC3 hnk1 hnt1
  clear PQ
  have xPA0 := PA.out.c0
  have xPAl := PA.out.lt
  have xPB0 := PB.out.c0
  have xPBl := PB.out.lt
  have xPP0 := PP.out.c0
  have xPPl := PP.out.lt
  go_wp2_with fail
  clear xPA0 xPAl xPB0 xPBl xPP0 xPPl
  refine (drawAddLambda_any A n c w9 ((h.below HB.out.b).mono HB.out.b.size) hN).mono ?_
  rintro e w10 ⟨A5, n5, c5, xx, A6, n6, c6, xy, rfl, hrxx, hrxy, hn5, htxx, hn6, htxy, hb⟩
  replace HB := Lib.hid (HB.out.ext hb)
  replace PA := Lib.hid (PA.out.ext hb)
  replace PB := Lib.hid (PB.out.ext hb)
  replace PP := Lib.hid (PP.out.ext hb)
  clear hb
  have SA := Lib.hid (BoxL.new (hrxx) 26 rfl)
  obtain ⟨w11, hw11⟩ : ∃ W, W = w10.alloc (.cells #[.slice A5 n5 c5] 26) := ⟨_, rfl⟩
  obtain ⟨q5, hq5⟩ : ∃ q, q = w10.heap.size := ⟨_, rfl⟩
  rw [← hw11, ← hq5] at SA
  have ew11 : Ext w10 w11 := by rw [hw11]; exact (Ext.refl _).alloc _
  have SB := Lib.hid (BoxL.new (w := w11) ((hrxy).below ew11 |>.mono ew11.size) 26 rfl)
  obtain ⟨w12, hw12⟩ : ∃ W, W = w11.alloc (.cells #[.slice A6 n6 c6] 26) := ⟨_, rfl⟩
  obtain ⟨q6, hq6⟩ : ∃ q, q = w11.heap.size := ⟨_, rfl⟩
  rw [← hw12, ← hq6] at SB
  have ew12 : Ext w11 w12 := by rw [hw12]; exact (Ext.refl _).alloc _
  have hsw12 : w11.heap.size = q5 + 1 := by rw [hw11, hq5]; simp
  replace SA := Lib.hid (SA.out.ext ew12)
  have xPA0 := PA.out.c0
  have xPAl := PA.out.lt
  have xPB0 := PB.out.c0
  have xPBl := PB.out.lt
  have xPP0 := PP.out.c0
  have xPPl := PP.out.lt
  replace HB := Lib.hid (HB.out.ext (Ext.trans ew11 ew12))
  replace PA := Lib.hid (PA.out.ext (Ext.trans ew11 ew12))
  replace PB := Lib.hid (PB.out.ext (Ext.trans ew11 ew12))
  replace PP := Lib.hid (PP.out.ext (Ext.trans ew11 ew12))
  have Hw11 := Lib.hid hw11
  have Hq5 := Lib.hid hq5
  have Hw12 := Lib.hid hw12
  have Hq6 := Lib.hid (hq6.trans hsw12)
  clear hw11 hq5 ew11 hw12 hq6 ew12 hsw12
  go_wp2_with fail
  clear xPA0 xPAl xPB0 xPBl xPP0 xPPl
  rw [← Hw11.out, ← Hw12.out, ← Hq5.out, ← Hq6.out]
  clear hrxx hrxy
  obtain ⟨o, ho⟩ : ∃ o, o = addO xx xy := ⟨_, rfl⟩
  obtain ⟨k2, xz⟩ := o
  have HO2 := Lib.hid ho.symm
  clear ho
  have hyxz : xz.length ≤ 75582 ∧ totalL xz ≤ 529074 := by have hh := addO_bounds xx xy; rw [HO2.out] at hh; exact hh
  refine (show Calls Tryz.prog 12 #[.agg #[.slice A5 n5 c5], .agg #[.slice A6 n6 c6]] _ (RetMC xz.length xz k2 _) from by have hc := iAddLambda A5 A6 (n5) c5 (n6) c6 xx xy _ SA.out.rd SB.out.rd (by omega) (by omega) (by omega) (by omega); rw [HO2.out] at hc; exact hc).mono ?_
  rintro e w13 ⟨A7, c7, rfl, ho, hb⟩
  replace HB := Lib.hid (HB.out.ext hb)
  replace PA := Lib.hid (PA.out.ext hb)
  replace PB := Lib.hid (PB.out.ext hb)
  replace PP := Lib.hid (PP.out.ext hb)
  replace SA := Lib.hid (SA.out.ext hb)
  replace SB := Lib.hid (SB.out.ext hb)
  have hrxz := ho.own.rd
  clear ho hb
  have SC := Lib.hid (BoxL.new (hrxz) 26 rfl)
  obtain ⟨w14, hw14⟩ : ∃ W, W = w13.alloc (.cells #[.slice A7 xz.length c7] 26) := ⟨_, rfl⟩
  obtain ⟨q7, hq7⟩ : ∃ q, q = w13.heap.size := ⟨_, rfl⟩
  rw [← hw14, ← hq7] at SC
  have ew14 : Ext w13 w14 := by rw [hw14]; exact (Ext.refl _).alloc _
  have xPA0 := PA.out.c0
  have xPAl := PA.out.lt
  have xPB0 := PB.out.c0
  have xPBl := PB.out.lt
  have xPP0 := PP.out.c0
  have xPPl := PP.out.lt
  have xSA0 := SA.out.c0
  have xSAl := SA.out.lt
  have xSB0 := SB.out.c0
  have xSBl := SB.out.lt
  replace HB := Lib.hid (HB.out.ext ew14)
  replace PA := Lib.hid (PA.out.ext ew14)
  replace PB := Lib.hid (PB.out.ext ew14)
  replace PP := Lib.hid (PP.out.ext ew14)
  replace SA := Lib.hid (SA.out.ext ew14)
  replace SB := Lib.hid (SB.out.ext ew14)
  have Hw14 := Lib.hid hw14
  have Hq7 := Lib.hid hq7
  clear hw14 hq7 ew14
  go_wp2_with fail
  clear xPA0 xPAl xPB0 xPBl xPP0 xPPl xSA0 xSAl xSB0 xSBl
  rw [← Hw14.out, ← Hq7.out]
  clear hrxz
  refine (show Calls Tryz.prog 13 #[.agg #[.slice A5 n5 c5], .agg #[.slice A6 n6 c6]] _ (RetMC xz.length xz k2 _) from by have hc := sAddLambda A5 A6 (n5) c5 (n6) c6 xx xy _ SA.out.rd SB.out.rd (by omega) (by omega) (by omega) (by omega); rw [HO2.out] at hc; exact hc).mono ?_
  rintro e w15 ⟨A8, c8, rfl, ho, hb⟩
  replace HB := Lib.hid (HB.out.ext hb)
  replace PA := Lib.hid (PA.out.ext hb)
  replace PB := Lib.hid (PB.out.ext hb)
  replace PP := Lib.hid (PP.out.ext hb)
  replace SA := Lib.hid (SA.out.ext hb)
  replace SB := Lib.hid (SB.out.ext hb)
  replace SC := Lib.hid (SC.out.ext hb)
  have hrxz := ho.own.rd
  clear ho hb
  have SD := Lib.hid (BoxL.new (hrxz) 26 rfl)
  obtain ⟨w16, hw16⟩ : ∃ W, W = w15.alloc (.cells #[.slice A8 xz.length c8] 26) := ⟨_, rfl⟩
  obtain ⟨q8, hq8⟩ : ∃ q, q = w15.heap.size := ⟨_, rfl⟩
  rw [← hw16, ← hq8] at SD
  have ew16 : Ext w15 w16 := by rw [hw16]; exact (Ext.refl _).alloc _
  have xPA0 := PA.out.c0
  have xPAl := PA.out.lt
  have xPB0 := PB.out.c0
  have xPBl := PB.out.lt
  have xPP0 := PP.out.c0
  have xPPl := PP.out.lt
  have xSA0 := SA.out.c0
  have xSAl := SA.out.lt
  have xSB0 := SB.out.c0
  have xSBl := SB.out.lt
  have xSC0 := SC.out.c0
  have xSCl := SC.out.lt
  replace HB := Lib.hid (HB.out.ext ew16)
  replace PA := Lib.hid (PA.out.ext ew16)
  replace PB := Lib.hid (PB.out.ext ew16)
  replace PP := Lib.hid (PP.out.ext ew16)
  replace SA := Lib.hid (SA.out.ext ew16)
  replace SB := Lib.hid (SB.out.ext ew16)
  replace SC := Lib.hid (SC.out.ext ew16)
  have Hw16 := Lib.hid hw16
  have Hq8 := Lib.hid hq8
  clear hw16 hq8 ew16
  go_wp2_with fail
  clear xPA0 xPAl xPB0 xPBl xPP0 xPPl xSA0 xSAl xSB0 xSBl xSC0 xSCl
  rw [← Hw16.out, ← Hq8.out]
  clear hrxz
  have hnk2 : (k2 != k2) = false := by simp
  refine (lambda9_any A7 A8 c7 c8 xz.length xz.length xz xz _ _ _ SC.out.rd SD.out.rd (Nat.le_refl _) (Nat.le_refl _) (by omega) (by omega) (by omega) (by omega)).mono ?_
  rintro e w17 ⟨rfl, hb⟩
  replace HB := Lib.hid (HB.out.ext hb)
  replace PA := Lib.hid (PA.out.ext hb)
  replace PB := Lib.hid (PB.out.ext hb)
  replace PP := Lib.hid (PP.out.ext hb)
  replace SA := Lib.hid (SA.out.ext hb)
  replace SB := Lib.hid (SB.out.ext hb)
  replace SC := Lib.hid (SC.out.ext hb)
  replace SD := Lib.hid (SD.out.ext hb)
  clear hb
  rw [show decide (xz = xz) = true from by simp]
  clear SA
  clear SB
  clear SC
  clear SD
  clear HO2
  have xPA0 := PA.out.c0
  have xPAl := PA.out.lt
  have xPB0 := PB.out.c0
  have xPBl := PB.out.lt
  have xPP0 := PP.out.c0
  have xPPl := PP.out.lt
  go_wp2_with fail
  clear xPA0 xPAl xPB0 xPBl xPP0 xPPl
  refine (drawLambdaForm_any A n c w17 ((h.below HB.out.b).mono HB.out.b.size) hN).mono ?_
  rintro e w18 ⟨A9, n9, c9, xf, rfl, ho, hn9, htxf, hb⟩
  replace HB := Lib.hid (HB.out.ext hb)
  replace PA := Lib.hid (PA.out.ext hb)
  replace PB := Lib.hid (PB.out.ext hb)
  replace PP := Lib.hid (PP.out.ext hb)
  have hrxf := ho.rd
  clear ho hb
  have FF := Lib.hid (BoxL.new (hrxf) 26 rfl)
  obtain ⟨w19, hw19⟩ : ∃ W, W = w18.alloc (.cells #[.slice A9 n9 c9] 26) := ⟨_, rfl⟩
  obtain ⟨q9, hq9⟩ : ∃ q, q = w18.heap.size := ⟨_, rfl⟩
  rw [← hw19, ← hq9] at FF
  have ew19 : Ext w18 w19 := by rw [hw19]; exact (Ext.refl _).alloc _
  have xPA0 := PA.out.c0
  have xPAl := PA.out.lt
  have xPB0 := PB.out.c0
  have xPBl := PB.out.lt
  have xPP0 := PP.out.c0
  have xPPl := PP.out.lt
  replace HB := Lib.hid (HB.out.ext ew19)
  replace PA := Lib.hid (PA.out.ext ew19)
  replace PB := Lib.hid (PB.out.ext ew19)
  replace PP := Lib.hid (PP.out.ext ew19)
  have Hw19 := Lib.hid hw19
  have Hq9 := Lib.hid hq9
  clear hw19 hq9 ew19
  go_wp2_with fail
  clear xPA0 xPAl xPB0 xPBl xPP0 xPPl
  rw [← Hw19.out, ← Hq9.out]
  clear hrxf
  obtain ⟨o, ho⟩ : ∃ o, o = formO xf := ⟨_, rfl⟩
  obtain ⟨k3, xm⟩ := o
  have HO3 := Lib.hid ho.symm
  clear ho
  have hyxm : xm.length ≤ 75582 ∧ totalL xm ≤ 529074 := by have hh := formO_bounds xf; rw [HO3.out] at hh; exact hh
  refine (show Calls Tryz.prog 15 #[.agg #[.slice A9 n9 c9]] _ (RetMC xm.length xm k3 _) from by have hc := iLambdaForm A9 (n9) c9 xf _ FF.out.rd (by omega) (by omega); rw [HO3.out] at hc; exact hc).mono ?_
  rintro e w20 ⟨A10, c10, rfl, ho, hb⟩
  replace HB := Lib.hid (HB.out.ext hb)
  replace PA := Lib.hid (PA.out.ext hb)
  replace PB := Lib.hid (PB.out.ext hb)
  replace PP := Lib.hid (PP.out.ext hb)
  replace FF := Lib.hid (FF.out.ext hb)
  have hrxm := ho.own.rd
  clear ho hb
  have FM := Lib.hid (BoxL.new (hrxm) 26 rfl)
  obtain ⟨w21, hw21⟩ : ∃ W, W = w20.alloc (.cells #[.slice A10 xm.length c10] 26) := ⟨_, rfl⟩
  obtain ⟨q10, hq10⟩ : ∃ q, q = w20.heap.size := ⟨_, rfl⟩
  rw [← hw21, ← hq10] at FM
  have ew21 : Ext w20 w21 := by rw [hw21]; exact (Ext.refl _).alloc _
  have xPA0 := PA.out.c0
  have xPAl := PA.out.lt
  have xPB0 := PB.out.c0
  have xPBl := PB.out.lt
  have xPP0 := PP.out.c0
  have xPPl := PP.out.lt
  have xFF0 := FF.out.c0
  have xFFl := FF.out.lt
  replace HB := Lib.hid (HB.out.ext ew21)
  replace PA := Lib.hid (PA.out.ext ew21)
  replace PB := Lib.hid (PB.out.ext ew21)
  replace PP := Lib.hid (PP.out.ext ew21)
  replace FF := Lib.hid (FF.out.ext ew21)
  have Hw21 := Lib.hid hw21
  have Hq10 := Lib.hid hq10
  clear hw21 hq10 ew21
  go_wp2_with fail
  clear xPA0 xPAl xPB0 xPBl xPP0 xPPl xFF0 xFFl
  rw [← Hw21.out, ← Hq10.out]
  clear hrxm
  refine (show Calls Tryz.prog 16 #[.agg #[.slice A9 n9 c9]] _ (RetMC xm.length xm k3 _) from by have hc := sLambdaForm A9 (n9) c9 xf _ FF.out.rd (by omega) (by omega); rw [HO3.out] at hc; exact hc).mono ?_
  rintro e w22 ⟨A11, c11, rfl, ho, hb⟩
  replace HB := Lib.hid (HB.out.ext hb)
  replace PA := Lib.hid (PA.out.ext hb)
  replace PB := Lib.hid (PB.out.ext hb)
  replace PP := Lib.hid (PP.out.ext hb)
  replace FF := Lib.hid (FF.out.ext hb)
  replace FM := Lib.hid (FM.out.ext hb)
  have hrxm := ho.own.rd
  clear ho hb
  have FN := Lib.hid (BoxL.new (hrxm) 26 rfl)
  obtain ⟨w23, hw23⟩ : ∃ W, W = w22.alloc (.cells #[.slice A11 xm.length c11] 26) := ⟨_, rfl⟩
  obtain ⟨q11, hq11⟩ : ∃ q, q = w22.heap.size := ⟨_, rfl⟩
  rw [← hw23, ← hq11] at FN
  have ew23 : Ext w22 w23 := by rw [hw23]; exact (Ext.refl _).alloc _
  have xPA0 := PA.out.c0
  have xPAl := PA.out.lt
  have xPB0 := PB.out.c0
  have xPBl := PB.out.lt
  have xPP0 := PP.out.c0
  have xPPl := PP.out.lt
  have xFF0 := FF.out.c0
  have xFFl := FF.out.lt
  have xFM0 := FM.out.c0
  have xFMl := FM.out.lt
  replace HB := Lib.hid (HB.out.ext ew23)
  replace PA := Lib.hid (PA.out.ext ew23)
  replace PB := Lib.hid (PB.out.ext ew23)
  replace PP := Lib.hid (PP.out.ext ew23)
  replace FF := Lib.hid (FF.out.ext ew23)
  replace FM := Lib.hid (FM.out.ext ew23)
  have Hw23 := Lib.hid hw23
  have Hq11 := Lib.hid hq11
  clear hw23 hq11 ew23
  go_wp2_with fail
  clear xPA0 xPAl xPB0 xPBl xPP0 xPPl xFF0 xFFl xFM0 xFMl
  rw [← Hw23.out, ← Hq11.out]
  clear hrxm
  have hnk3 : (k3 != k3) = false := by simp
  refine (lambda9_any A10 A11 c10 c11 xm.length xm.length xm xm _ _ _ FM.out.rd FN.out.rd (Nat.le_refl _) (Nat.le_refl _) (by omega) (by omega) (by omega) (by omega)).mono ?_
  rintro e w24 ⟨rfl, hb⟩
  replace HB := Lib.hid (HB.out.ext hb)
  replace PA := Lib.hid (PA.out.ext hb)
  replace PB := Lib.hid (PB.out.ext hb)
  replace PP := Lib.hid (PP.out.ext hb)
  replace FF := Lib.hid (FF.out.ext hb)
  replace FM := Lib.hid (FM.out.ext hb)
  replace FN := Lib.hid (FN.out.ext hb)
  clear hb
  rw [show decide (xm = xm) = true from by simp]
  clear FN
  have HAd := Lib.hid (form_inv HO3.out)
  clear hnk2 hnk3
  have xPA0 := PA.out.c0
  have xPAl := PA.out.lt
  have xPB0 := PB.out.c0
  have xPBl := PB.out.lt
  have xPP0 := PP.out.c0
  have xPPl := PP.out.lt
  have xFF0 := FF.out.c0
  have xFFl := FF.out.lt
  have xFM0 := FM.out.c0
  have xFMl := FM.out.lt
  go_wp2_with fail
  clear xPA0 xPAl xPB0 xPBl xPP0 xPPl xFF0 xFFl xFM0 xFMl
  go_loopw [20] (fun i wr => ∃ k : Nat, k ≤ xm.length ∧ i = .int .i64 k ∧ ∃ q, wr = w24.drewN q) (fun i _ => xm.length - (intOf i).toNat)
  case atStart => exact ⟨0, Nat.zero_le _, rfl, 0, rfl⟩
  case round =>
    obtain ⟨k, hk, rfl, q, rfl⟩ := hrel
    have f0 := FM.out.c0
    have fl := FM.out.lt
    by_cases hlt : k < xm.length
    · obtain ⟨ad, Ar, nr, cr, x, rfl, hbk, hx, hcx, hr⟩ := FM.out.rd.at_ hlt
      have hax := HAd.out x (List.mem_of_getElem? hx.out)
      have hnr : nr ≤ 7 := by rw [← hr.len]; exact hax.1.1
      go_wp2_with fail
      go_loopw [21] (fun i wz => ∃ j : Nat, 1 ≤ j ∧ (j ≤ nr ∨ j = 1) ∧ i = .int .i64 j ∧ ∃ q, wz = w24.drewN q) (fun i _ => nr - (intOf i).toNat)
      case atStart => exact ⟨1, Nat.le_refl _, .inr rfl, rfl, q, rfl⟩
      case round =>
        obtain ⟨j, hj1, hjn, rfl, qz, rfl⟩ := hrel
        by_cases hjt : j < nr
        · obtain ⟨ad2, z, rfl, _, hz, hcz⟩ := hr.at_ hjt
          obtain ⟨ad3, y, e3, _, hy, hcy⟩ := hr.at_ (k := j - 1) (by omega)
          injection e3 with e3
          subst e3
          have hzy := adm_at (k := j - 1) hax.2 hy.out (by rw [show j - 1 + 1 = j by omega]; exact hz.out)
          have hy0 := hax.1.2.1 y (mem_of hy)
          have hy11 := sumZ_mem hax.1.2.1 y (mem_of hy)
          have hs11 := hax.1.2.2
          have hwk : IntKind.i64.wrap ((j : Int) - 1) = ((j - 1 : Nat) : Int) := by rw [IntKind.wrap_i64]; omega
          have hw2 : IntKind.i64.wrap (2 * y) = 2 * y := by rw [IntKind.wrap_i64]; omega
          have hle : ¬ (2 * y < z) := by omega
          have hjj0 : (0 : Int) ≤ ((j - 1 : Nat) : Int) := by omega
          have hjj1 : ((j - 1 : Nat) : Int) < (nr : Int) := by omega
          have hk0 : (0 : Int) ≤ (k : Int) := by omega
          have hkn : (k : Int) < (xm.length : Int) := by omega
          clear hz hy hx
          go_wp2_with fail
          go_quiet (fail)
          go_wp2_with fail
          go_roundw
          case rel => exact ⟨j + 1, by omega, by omega, by go_num, (by first | exact ⟨_, rfl⟩ | exact ⟨_, World.drewN_drewN _ _ _⟩ | (simp only [World.drewN_drewN]; exact ⟨_, rfl⟩))⟩
          case measure => simp [intOf]; omega
        · go_wp2_with fail
          go_roundw
          case rel => exact ⟨k + 1, by omega, by go_num, (by first | exact ⟨_, rfl⟩ | exact ⟨_, World.drewN_drewN _ _ _⟩ | (simp only [World.drewN_drewN]; exact ⟨_, rfl⟩))⟩
          case measure => simp [intOf]; omega
    · have hkx : k = xm.length := by omega
      obtain ⟨w25, hw25⟩ : ∃ W, W = w24.drewN q := ⟨_, rfl⟩
      have hb : Ext w24 w25 := by rw [hw25]; exact below_drewN (Below.refl _ _) q
      clear f0 fl hkx
      replace HB := Lib.hid (HB.out.ext hb)
      replace PA := Lib.hid (PA.out.ext hb)
      replace PB := Lib.hid (PB.out.ext hb)
      replace PP := Lib.hid (PP.out.ext hb)
      replace FF := Lib.hid (FF.out.ext hb)
      replace FM := Lib.hid (FM.out.ext hb)
      clear hb
      rw [← hw25]
      clear hw25
      have xPA0 := PA.out.c0
      have xPAl := PA.out.lt
      have xPB0 := PB.out.c0
      have xPBl := PB.out.lt
      have xPP0 := PP.out.c0
      have xPPl := PP.out.lt
      have xFF0 := FF.out.c0
      have xFFl := FF.out.lt
      have xFM0 := FM.out.c0
      have xFMl := FM.out.lt
      go_wp2_with fail
      clear xPA0 xPAl xPB0 xPBl xPP0 xPPl xFF0 xFFl xFM0 xFMl
      clear FM
      refine (drawDifferentialOf_any A n c w25 ((h.below HB.out.b).mono HB.out.b.size) hN).mono ?_
      rintro e w26 ⟨A12, n12, c12, xg, rfl, ho, hn12, htxg, hb⟩
      replace HB := Lib.hid (HB.out.ext hb)
      replace PA := Lib.hid (PA.out.ext hb)
      replace PB := Lib.hid (PB.out.ext hb)
      replace PP := Lib.hid (PP.out.ext hb)
      replace FF := Lib.hid (FF.out.ext hb)
      have hrxg := ho.rd
      clear ho hb
      have GG := Lib.hid (BoxL.new (hrxg) 26 rfl)
      obtain ⟨w27, hw27⟩ : ∃ W, W = w26.alloc (.cells #[.slice A12 n12 c12] 26) := ⟨_, rfl⟩
      obtain ⟨q12, hq12⟩ : ∃ q, q = w26.heap.size := ⟨_, rfl⟩
      rw [← hw27, ← hq12] at GG
      have ew27 : Ext w26 w27 := by rw [hw27]; exact (Ext.refl _).alloc _
      have xPA0 := PA.out.c0
      have xPAl := PA.out.lt
      have xPB0 := PB.out.c0
      have xPBl := PB.out.lt
      have xPP0 := PP.out.c0
      have xPPl := PP.out.lt
      have xFF0 := FF.out.c0
      have xFFl := FF.out.lt
      replace HB := Lib.hid (HB.out.ext ew27)
      replace PA := Lib.hid (PA.out.ext ew27)
      replace PB := Lib.hid (PB.out.ext ew27)
      replace PP := Lib.hid (PP.out.ext ew27)
      replace FF := Lib.hid (FF.out.ext ew27)
      have Hw27 := Lib.hid hw27
      have Hq12 := Lib.hid hq12
      clear hw27 hq12 ew27
      go_wp2_with fail
      clear xPA0 xPAl xPB0 xPBl xPP0 xPPl xFF0 xFFl
      rw [← Hw27.out, ← Hq12.out]
      clear hrxg
      obtain ⟨o, ho⟩ : ∃ o, o = difO xg := ⟨_, rfl⟩
      obtain ⟨k4, xd⟩ := o
      have HO4 := Lib.hid ho.symm
      clear ho
      have hyxd : xd.length ≤ 75582 ∧ totalL xd ≤ 529074 := by have hh := difO_bounds xg; rw [HO4.out] at hh; exact hh
      refine (show Calls Tryz.prog 18 #[.agg #[.slice A12 n12 c12]] _ (RetMC xd.length xd k4 _) from by have hc := iDifferentialOf A12 (n12) c12 xg _ GG.out.rd (by omega) (by omega); rw [HO4.out] at hc; exact hc).mono ?_
      rintro e w28 ⟨A13, c13, rfl, ho, hb⟩
      replace HB := Lib.hid (HB.out.ext hb)
      replace PA := Lib.hid (PA.out.ext hb)
      replace PB := Lib.hid (PB.out.ext hb)
      replace PP := Lib.hid (PP.out.ext hb)
      replace FF := Lib.hid (FF.out.ext hb)
      replace GG := Lib.hid (GG.out.ext hb)
      have hrxd := ho.own.rd
      clear ho hb
      have GD := Lib.hid (BoxL.new (hrxd) 26 rfl)
      obtain ⟨w29, hw29⟩ : ∃ W, W = w28.alloc (.cells #[.slice A13 xd.length c13] 26) := ⟨_, rfl⟩
      obtain ⟨q13, hq13⟩ : ∃ q, q = w28.heap.size := ⟨_, rfl⟩
      rw [← hw29, ← hq13] at GD
      have ew29 : Ext w28 w29 := by rw [hw29]; exact (Ext.refl _).alloc _
      have xPA0 := PA.out.c0
      have xPAl := PA.out.lt
      have xPB0 := PB.out.c0
      have xPBl := PB.out.lt
      have xPP0 := PP.out.c0
      have xPPl := PP.out.lt
      have xFF0 := FF.out.c0
      have xFFl := FF.out.lt
      have xGG0 := GG.out.c0
      have xGGl := GG.out.lt
      replace HB := Lib.hid (HB.out.ext ew29)
      replace PA := Lib.hid (PA.out.ext ew29)
      replace PB := Lib.hid (PB.out.ext ew29)
      replace PP := Lib.hid (PP.out.ext ew29)
      replace FF := Lib.hid (FF.out.ext ew29)
      replace GG := Lib.hid (GG.out.ext ew29)
      have Hw29 := Lib.hid hw29
      have Hq13 := Lib.hid hq13
      clear hw29 hq13 ew29
      go_wp2_with fail
      clear xPA0 xPAl xPB0 xPBl xPP0 xPPl xFF0 xFFl xGG0 xGGl
      rw [← Hw29.out, ← Hq13.out]
      clear hrxd
      refine (show Calls Tryz.prog 19 #[.agg #[.slice A12 n12 c12]] _ (RetMC xd.length xd k4 _) from by have hc := sDifferentialOf A12 (n12) c12 xg _ GG.out.rd (by omega) (by omega); rw [HO4.out] at hc; exact hc).mono ?_
      rintro e w30 ⟨A14, c14, rfl, ho, hb⟩
      replace HB := Lib.hid (HB.out.ext hb)
      replace PA := Lib.hid (PA.out.ext hb)
      replace PB := Lib.hid (PB.out.ext hb)
      replace PP := Lib.hid (PP.out.ext hb)
      replace FF := Lib.hid (FF.out.ext hb)
      replace GG := Lib.hid (GG.out.ext hb)
      replace GD := Lib.hid (GD.out.ext hb)
      have hrxd := ho.own.rd
      clear ho hb
      have GE := Lib.hid (BoxL.new (hrxd) 26 rfl)
      obtain ⟨w31, hw31⟩ : ∃ W, W = w30.alloc (.cells #[.slice A14 xd.length c14] 26) := ⟨_, rfl⟩
      obtain ⟨q14, hq14⟩ : ∃ q, q = w30.heap.size := ⟨_, rfl⟩
      rw [← hw31, ← hq14] at GE
      have ew31 : Ext w30 w31 := by rw [hw31]; exact (Ext.refl _).alloc _
      have xPA0 := PA.out.c0
      have xPAl := PA.out.lt
      have xPB0 := PB.out.c0
      have xPBl := PB.out.lt
      have xPP0 := PP.out.c0
      have xPPl := PP.out.lt
      have xFF0 := FF.out.c0
      have xFFl := FF.out.lt
      have xGG0 := GG.out.c0
      have xGGl := GG.out.lt
      have xGD0 := GD.out.c0
      have xGDl := GD.out.lt
      replace HB := Lib.hid (HB.out.ext ew31)
      replace PA := Lib.hid (PA.out.ext ew31)
      replace PB := Lib.hid (PB.out.ext ew31)
      replace PP := Lib.hid (PP.out.ext ew31)
      replace FF := Lib.hid (FF.out.ext ew31)
      replace GG := Lib.hid (GG.out.ext ew31)
      replace GD := Lib.hid (GD.out.ext ew31)
      have Hw31 := Lib.hid hw31
      have Hq14 := Lib.hid hq14
      clear hw31 hq14 ew31
      go_wp2_with fail
      clear xPA0 xPAl xPB0 xPBl xPP0 xPPl xFF0 xFFl xGG0 xGGl xGD0 xGDl
      rw [← Hw31.out, ← Hq14.out]
      clear hrxd
      have hnk4 : (k4 != k4) = false := by simp
      refine (lambda9_any A13 A14 c13 c14 xd.length xd.length xd xd _ _ _ GD.out.rd GE.out.rd (Nat.le_refl _) (Nat.le_refl _) (by omega) (by omega) (by omega) (by omega)).mono ?_
      rintro e w32 ⟨rfl, hb⟩
      replace HB := Lib.hid (HB.out.ext hb)
      replace PA := Lib.hid (PA.out.ext hb)
      replace PB := Lib.hid (PB.out.ext hb)
      replace PP := Lib.hid (PP.out.ext hb)
      replace FF := Lib.hid (FF.out.ext hb)
      replace GG := Lib.hid (GG.out.ext hb)
      replace GD := Lib.hid (GD.out.ext hb)
      replace GE := Lib.hid (GE.out.ext hb)
      clear hb
      rw [show decide (xd = xd) = true from by simp]
      clear GE
      clear GG
      clear hnk4
      have xPA0 := PA.out.c0
      have xPAl := PA.out.lt
      have xPB0 := PB.out.c0
      have xPBl := PB.out.lt
      have xPP0 := PP.out.c0
      have xPPl := PP.out.lt
      have xFF0 := FF.out.c0
      have xFFl := FF.out.lt
      have xGD0 := GD.out.c0
      have xGDl := GD.out.lt
      go_upto_if 192 with fail
      clear xPA0 xPAl xPB0 xPBl xPP0 xPPl xFF0 xFFl xGD0 xGDl
      go_cut [27, 28] from 191 to 213 (fun _ _ wc => Hid (Ext w32 wc))
      case first =>
        by_cases hk4 : k4 = 0
        · skip
          have HOd := Lib.hid (show difO xg = (0, xd) by rw [HO4.out, hk4])
          have hk40 : (k4 == 0) = true := by simpa using hk4
          have HDD := Lib.hid (dd_law HOd.out)
          clear hk4
          have xPA0 := PA.out.c0
          have xPAl := PA.out.lt
          have xPB0 := PB.out.c0
          have xPBl := PB.out.lt
          have xPP0 := PP.out.c0
          have xPPl := PP.out.lt
          have xFF0 := FF.out.c0
          have xFFl := FF.out.lt
          have xGD0 := GD.out.c0
          have xGDl := GD.out.lt
          go_wp2_with fail
          clear xPA0 xPAl xPB0 xPBl xPP0 xPPl xFF0 xFFl xGD0 xGDl
          rcases HDD.out with hd | hd
          · skip
            have HDx := Lib.hid hd
            clear hd
            refine (show Calls Tryz.prog 18 #[.agg #[.slice A13 xd.length c13]] _ (RetMC 0 [] 0 _) from by have hc := iDifferentialOf A13 xd.length c13 xd _ GD.out.rd (by omega) (by omega); rw [HDx.out] at hc; exact hc).mono ?_
            rintro e w33 ⟨Ae, ce, rfl, ho, hb⟩
            replace HB := Lib.hid (HB.out.ext hb)
            replace PA := Lib.hid (PA.out.ext hb)
            replace PB := Lib.hid (PB.out.ext hb)
            replace PP := Lib.hid (PP.out.ext hb)
            replace FF := Lib.hid (FF.out.ext hb)
            replace GD := Lib.hid (GD.out.ext hb)
            have hre := ho.own.rd
            have hEx : Hid (Ext w32 w33) := Lib.hid hb
            clear ho hb
            have heq : Ext w33 (w33.alloc (.cells #[.slice Ae 0 ce] 26)) := (Ext.refl _).alloc _
            have hEx2 := Lib.hid (Ext.trans hEx.out heq)
            clear heq hre
            go_wp2_with fail
            go_meet
            exact hEx2
          · skip
            have HDx := Lib.hid hd
            clear hd
            refine (show Calls Tryz.prog 18 #[.agg #[.slice A13 xd.length c13]] _ (RetMC 0 [] 3 _) from by have hc := iDifferentialOf A13 xd.length c13 xd _ GD.out.rd (by omega) (by omega); rw [HDx.out] at hc; exact hc).mono ?_
            rintro e w33 ⟨Ae, ce, rfl, ho, hb⟩
            replace HB := Lib.hid (HB.out.ext hb)
            replace PA := Lib.hid (PA.out.ext hb)
            replace PB := Lib.hid (PB.out.ext hb)
            replace PP := Lib.hid (PP.out.ext hb)
            replace FF := Lib.hid (FF.out.ext hb)
            replace GD := Lib.hid (GD.out.ext hb)
            have hre := ho.own.rd
            have hEx : Hid (Ext w32 w33) := Lib.hid hb
            clear ho hb
            have heq : Ext w33 (w33.alloc (.cells #[.slice Ae 0 ce] 26)) := (Ext.refl _).alloc _
            have hEx2 := Lib.hid (Ext.trans hEx.out heq)
            clear heq hre
            go_wp2_with fail
            go_meet
            exact hEx2
        · skip
          have hk40 : (k4 == 0) = false := by simpa using hk4
          clear hk4
          have xPA0 := PA.out.c0
          have xPAl := PA.out.lt
          have xPB0 := PB.out.c0
          have xPBl := PB.out.lt
          have xPP0 := PP.out.c0
          have xPPl := PP.out.lt
          have xFF0 := FF.out.c0
          have xFFl := FF.out.lt
          have xGD0 := GD.out.c0
          have xGDl := GD.out.lt
          go_wp2_with fail
          clear xPA0 xPAl xPB0 xPBl xPP0 xPPl xFF0 xFFl xGD0 xGDl
          go_meet
          exact Lib.hid (Ext.refl _)
      case rest =>
        have hb := hcut.out
        skip
        replace HB := Lib.hid (HB.out.ext hb)
        replace PA := Lib.hid (PA.out.ext hb)
        replace PB := Lib.hid (PB.out.ext hb)
        replace PP := Lib.hid (PP.out.ext hb)
        replace FF := Lib.hid (FF.out.ext hb)
        replace GD := Lib.hid (GD.out.ext hb)
        clear hb hcut
        clear GD
        clear HO4
        have xPA0 := PA.out.c0
        have xPAl := PA.out.lt
        have xPB0 := PB.out.c0
        have xPBl := PB.out.lt
        have xPP0 := PP.out.c0
        have xPPl := PP.out.lt
        have xFF0 := FF.out.c0
        have xFFl := FF.out.lt
        go_wp2_with fail
        clear xPA0 xPAl xPB0 xPBl xPP0 xPPl xFF0 xFFl
        obtain ⟨tx, htx⟩ : ∃ t : ByteArray, t = ⟨(ltT xf).toArray⟩ := ⟨_, rfl⟩
        obtain ⟨k6, hk6⟩ : ∃ k, k = ltC xf := ⟨_, rfl⟩
        have HTX := Lib.hid htx
        have HK6 := Lib.hid hk6
        clear htx hk6
        refine (show Calls Tryz.prog 20 #[.agg #[.slice A9 n9 c9]] wc (fun e w2 => e = .returned (.tuple #[.string tx, .int .i64 k6]) ∧ Below wc.heap.size wc w2) from by have hc := iLambdaText A9 n9 c9 xf wc (HMx.out.belowB HB.out.b HMx.out.pos) FF.out.rd (by omega) (by omega); unfold RetTC at hc; rw [← HTX.out, ← HK6.out] at hc; exact hc).mono ?_
        rintro e w34 ⟨rfl, hb⟩
        replace HB := Lib.hid (HB.out.ext hb)
        replace PA := Lib.hid (PA.out.ext hb)
        replace PB := Lib.hid (PB.out.ext hb)
        replace PP := Lib.hid (PP.out.ext hb)
        replace FF := Lib.hid (FF.out.ext hb)
        clear hb
        have xPA0 := PA.out.c0
        have xPAl := PA.out.lt
        have xPB0 := PB.out.c0
        have xPBl := PB.out.lt
        have xPP0 := PP.out.c0
        have xPPl := PP.out.lt
        have xFF0 := FF.out.c0
        have xFFl := FF.out.lt
        go_wp2_with fail
        clear xPA0 xPAl xPB0 xPBl xPP0 xPPl xFF0 xFFl
        refine (show Calls Tryz.prog 21 #[.agg #[.slice A9 n9 c9]] w34 (fun e w2 => e = .returned (.tuple #[.string tx, .int .i64 k6]) ∧ Below w34.heap.size w34 w2) from by have hc := sLambdaText A9 n9 c9 xf w34 FF.out.rd (by omega) (by omega); unfold RetTC at hc; rw [← HTX.out, ← HK6.out] at hc; exact hc).mono ?_
        rintro e w35 ⟨rfl, hb⟩
        replace HB := Lib.hid (HB.out.ext hb)
        replace PA := Lib.hid (PA.out.ext hb)
        replace PB := Lib.hid (PB.out.ext hb)
        replace PP := Lib.hid (PP.out.ext hb)
        replace FF := Lib.hid (FF.out.ext hb)
        clear hb
        have hnk6 : (k6 != k6) = false := by simp
        have hntx : True := trivial
        clear FF
        have xPA0 := PA.out.c0
        have xPAl := PA.out.lt
        have xPB0 := PB.out.c0
        have xPBl := PB.out.lt
        have xPP0 := PP.out.c0
        have xPPl := PP.out.lt
        go_upto_region 39 with fail
        clear xPA0 xPAl xPB0 xPBl xPP0 xPPl
        clear hnk6 hntx HO3 HAd
        by_cases hk1 : k1 = 0
        · skip
          subst hk1
          by_cases hn1 : n1 = 0
          · skip
            subst hn1
            have xPA0 := PA.out.c0
            have xPAl := PA.out.lt
            have xPB0 := PB.out.c0
            have xPBl := PB.out.lt
            have xPP0 := PP.out.c0
            have xPPl := PP.out.lt
            go_quiet (fail)
            go_wp2_with fail
            rw [HR.out]
            exact ⟨rfl, below_drewN HB.out.b _⟩
          · skip
            have e1 : ((n1 : Int) == 0) = false := by simp; omega
            by_cases hn2 : n2 = 0
            · skip
              subst hn2
              have xPA0 := PA.out.c0
              have xPAl := PA.out.lt
              have xPB0 := PB.out.c0
              have xPBl := PB.out.lt
              have xPP0 := PP.out.c0
              have xPPl := PP.out.lt
              go_quiet (fail)
              go_wp2_with fail
              rw [HR.out]
              exact ⟨rfl, below_drewN HB.out.b _⟩
            · skip
              have e2 : ((n2 : Int) == 0) = false := by simp; omega
              obtain ⟨ad1, Aa, na, ca, ha0, hA1, _, hxa, hca, hra⟩ := PA.out.rd.at_ (k := 0) (by omega)
              obtain ⟨ad2, Ab, nb, cb, hb0, hA2, _, hxb, hcb, hrb⟩ := PB.out.rd.at_ (k := 0) (by omega)
              have haL : (xa.headD []).length = na := by
                have := hxa.out
                match xa, this with
                | y :: r, this => have hy : y = ha0 := by simpa using this
                                  rw [List.headD_cons, hy]; exact hra.len
              have hbL : (xb.headD []).length = nb := by
                have := hxb.out
                match xb, this with
                | y :: r, this => have hy : y = hb0 := by simpa using this
                                  rw [List.headD_cons, hy]; exact hrb.len
              have haE : xa.isEmpty = false := by
                have := hxa.out
                match xa, this with
                | y :: r, this => rfl
              have hbE : xb.isEmpty = false := by
                have := hxb.out
                match xb, this with
                | y :: r, this => rfl
              have hLa := PA.out.rd.len
              have hLb := PB.out.rd.len
              subst hA1; subst hA2
              have hca0 : w35.cell? ad1 = some (.slice Aa na ca) := by simpa [Addr.add] using hca
              have hcb0 : w35.cell? ad2 = some (.slice Ab nb cb) := by simpa [Addr.add] using hcb
              have hmi := mul_inv HO1.out
              have hna := (isLB_head hmi.1).1
              have hnb := (isLB_head hmi.2.1).1
              rw [haL] at hna
              rw [hbL] at hnb
              have p1 : 0 < n1 := by omega
              have p2 : 0 < n2 := by omega
              have HaL := Lib.hid haL
              have HbL := Lib.hid hbL
              have HaE := Lib.hid haE
              have HbE := Lib.hid hbE
              clear hra hrb hxa hxb hca hcb hn1 hn2 hmi haL hbL haE hbE hLa hLb
              by_cases h6 : 6 < na + nb
              · skip
                have h6a : (6 : Int) < (na : Int) + (nb : Int) := by omega
                have xPA0 := PA.out.c0
                have xPAl := PA.out.lt
                have xPB0 := PB.out.c0
                have xPBl := PB.out.lt
                have xPP0 := PP.out.c0
                have xPPl := PP.out.lt
                go_quiet (fail)
                go_wp2_with fail
                rw [HR.out]
                exact ⟨rfl, below_drewN HB.out.b _⟩
              · skip
                have h6b : ¬ (6 : Int) < (na : Int) + (nb : Int) := by omega
                have xPA0 := PA.out.c0
                have xPAl := PA.out.lt
                have xPB0 := PB.out.c0
                have xPBl := PB.out.lt
                have xPP0 := PP.out.c0
                have xPPl := PP.out.lt
                go_quiet (fail)
                clear xPA0 xPAl xPB0 xPBl xPP0 xPPl
                obtain ⟨wq, hwq⟩ : ∃ W, W = w35.drewN nq := ⟨_, rfl⟩
                have hb : Ext w35 wq := by rw [hwq]; exact below_drewN (Below.refl _ _) nq
                replace HB := Lib.hid (HB.out.ext hb)
                replace PA := Lib.hid (PA.out.ext hb)
                replace PB := Lib.hid (PB.out.ext hb)
                replace PP := Lib.hid (PP.out.ext hb)
                rw [← hwq]
                clear hb hwq e1 e2 hca0 hcb0
                have xPA0 := PA.out.c0
                have xPAl := PA.out.lt
                have xPB0 := PB.out.c0
                have xPBl := PB.out.lt
                have xPP0 := PP.out.c0
                have xPPl := PP.out.lt
                go_wp2_with fail
                clear xPA0 xPAl xPB0 xPBl xPP0 xPPl
                refine (show Calls Tryz.prog 22 #[.slice A n c, .int .u64 9117] wq (RetFm wq) from by have hc := roll_any A n c 9117 wq ((h.below HB.out.b).mono HB.out.b.size) hN (by decide); exact hc).mono ?_
                rintro e w36 ⟨rfl, hs1, hb1⟩
                have Hs1 := Lib.hid hs1
                have Hb1 := Lib.hid hb1
                clear hs1 hb1
                go_wp2_with fail
                refine (below_any _ 2 w36 Hs1.out (by omega)).mono ?_
                rintro e w37 ⟨r, rfl, hr0, hr1, hs2, hm2, hz2⟩
                have hb : Ext wq w37 := Hb1.out.trans (hm2.below Hb1.out.size)
                replace HB := Lib.hid (HB.out.ext hb)
                replace PA := Lib.hid (PA.out.ext hb)
                replace PB := Lib.hid (PB.out.ext hb)
                replace PP := Lib.hid (PP.out.ext hb)
                clear hb hs2 hm2 hz2
                have xPA0 := PA.out.c0
                have xPAl := PA.out.lt
                have xPB0 := PB.out.c0
                have xPBl := PB.out.lt
                have xPP0 := PP.out.c0
                have xPPl := PP.out.lt
                obtain ⟨w38, hw38⟩ : ∃ W, W = w37.alloc (.cells #[.int .i64 r] 2) := ⟨_, rfl⟩
                obtain ⟨w39, hw39⟩ : ∃ W, W = w38.alloc (.cells #[.slice (some ⟨w37.heap.size, 0, none⟩) 1 1] 35) := ⟨_, rfl⟩
                have ew38 : Ext w37 w38 := by rw [hw38]; exact (Ext.refl _).alloc _
                have ew39 : Ext w38 w39 := by rw [hw39]; exact (Ext.refl _).alloc _
                have hz1 : w38.heap.size = w37.heap.size + 1 := by rw [hw38]; simp
                have hz2 : w39.heap.size = w37.heap.size + 1 + 1 := by rw [hw39]; simp [hz1]
                have hrd : RdL w39 w39.heap.size (some ⟨w37.heap.size + 1, 0, none⟩) 1 1 [[r]] := by
                  have h1 : RdS w38 (w37.heap.size + 1) (some ⟨w37.heap.size, 0, none⟩) 1 1 [r] := by rw [hw38]; exact rd_new w37 r 2
                  have h2 := rdL_single h1 (Nat.le_of_eq hz1.symm)
                  rw [← hw39, hz1] at h2
                  exact h2
                obtain ⟨xc, hxc⟩ : ∃ x, x = [[r]] := ⟨_, rfl⟩
                rw [← hxc] at hrd
                have HXC := Lib.hid hxc
                have hcl : xc.length = 1 ∧ totalL xc ≤ 1 := by rw [hxc]; simp [totalL]
                obtain ⟨g15, hg15⟩ : ∃ g, g = w37.heap.size + 1 := ⟨_, rfl⟩
                rw [← hg15] at hrd hz2
                have HG15 := Lib.hid hg15
                obtain ⟨hcl1, hcl2⟩ := hcl
                replace HB := Lib.hid (HB.out.ext (Ext.trans ew38 ew39))
                replace PA := Lib.hid (PA.out.ext (Ext.trans ew38 ew39))
                replace PB := Lib.hid (PB.out.ext (Ext.trans ew38 ew39))
                replace PP := Lib.hid (PP.out.ext (Ext.trans ew38 ew39))
                have PC := Lib.hid (BoxL.new hrd 26 rfl)
                obtain ⟨w40, hw40⟩ : ∃ W, W = w39.alloc (.cells #[.slice (some ⟨g15, 0, none⟩) 1 1] 26) := ⟨_, rfl⟩
                obtain ⟨q15, hq15⟩ : ∃ q, q = w39.heap.size := ⟨_, rfl⟩
                rw [← hw40, ← hq15] at PC
                have ew40 : Ext w39 w40 := by rw [hw40]; exact (Ext.refl _).alloc _
                replace HB := Lib.hid (HB.out.ext ew40)
                replace PA := Lib.hid (PA.out.ext ew40)
                replace PB := Lib.hid (PB.out.ext ew40)
                replace PP := Lib.hid (PP.out.ext ew40)
                clear xPA0 xPAl xPB0 xPBl xPP0 xPPl
                have xPA0 := PA.out.c0
                rw [hw40, hw39, hw38, hg15] at xPA0
                have xPB0 := PB.out.c0
                rw [hw40, hw39, hw38, hg15] at xPB0
                have xPP0 := PP.out.c0
                rw [hw40, hw39, hw38, hg15] at xPP0
                have HU1 := Lib.hid hw38
                have HU2 := Lib.hid hw39
                have HV3 := Lib.hid hw40
                have HQ15 := Lib.hid (hq15.trans hz2)
                have HQ16 := Lib.hid hq15
                clear hw38 hw39 hw40 ew38 ew39 ew40 hrd hz1 hz2 hg15 hxc hq15
                go_wp2_with fail
                clear xPA0 xPB0 xPP0
                rw [← HU1.out, ← HG15.out, ← HU2.out, ← HQ15.out, ← HV3.out]
                obtain ⟨o, ho⟩ : ∃ o, o = mulO xp xc := ⟨_, rfl⟩
                obtain ⟨k7, xl⟩ := o
                have HO7 := Lib.hid ho.symm
                clear ho
                have hyxl : xl.length ≤ 75582 ∧ totalL xl ≤ 529074 := by have hh := mulO_bounds xp xc; rw [HO7.out] at hh; exact hh
                refine (show Calls Tryz.prog 6 #[.agg #[.slice A3 xp.length c3], .agg #[.slice (some ⟨g15, 0, none⟩) 1 1]] _ (RetMC xl.length xl k7 _) from by have hc := iMultiplyLambda A3 (some ⟨g15, 0, none⟩) (xp.length) c3 (1) 1 xp xc _ PP.out.rd PC.out.rd (by omega) (by omega) (by omega) (by omega); rw [HO7.out] at hc; exact hc).mono ?_
                rintro e w41 ⟨A17, c17, rfl, ho, hb⟩
                replace HB := Lib.hid (HB.out.ext hb)
                replace PA := Lib.hid (PA.out.ext hb)
                replace PB := Lib.hid (PB.out.ext hb)
                replace PP := Lib.hid (PP.out.ext hb)
                replace PC := Lib.hid (PC.out.ext hb)
                have hrxl := ho.own.rd
                clear ho hb
                have PL := Lib.hid (BoxL.new (hrxl) 26 rfl)
                obtain ⟨w42, hw42⟩ : ∃ W, W = w41.alloc (.cells #[.slice A17 xl.length c17] 26) := ⟨_, rfl⟩
                obtain ⟨q17, hq17⟩ : ∃ q, q = w41.heap.size := ⟨_, rfl⟩
                rw [← hw42, ← hq17] at PL
                have ew42 : Ext w41 w42 := by rw [hw42]; exact (Ext.refl _).alloc _
                have xPA0 := PA.out.c0
                have xPAl := PA.out.lt
                have xPB0 := PB.out.c0
                have xPBl := PB.out.lt
                have xPP0 := PP.out.c0
                have xPPl := PP.out.lt
                have xPC0 := PC.out.c0
                have xPCl := PC.out.lt
                replace HB := Lib.hid (HB.out.ext ew42)
                replace PA := Lib.hid (PA.out.ext ew42)
                replace PB := Lib.hid (PB.out.ext ew42)
                replace PP := Lib.hid (PP.out.ext ew42)
                replace PC := Lib.hid (PC.out.ext ew42)
                have Hw42 := Lib.hid hw42
                have Hq17 := Lib.hid hq17
                clear hw42 hq17 ew42
                go_wp2_with fail
                clear xPA0 xPAl xPB0 xPBl xPP0 xPPl xPC0 xPCl
                rw [← Hw42.out, ← Hq17.out]
                clear hrxl
                obtain ⟨o, ho⟩ : ∃ o, o = mulO xb xc := ⟨_, rfl⟩
                obtain ⟨k8, xbc⟩ := o
                have HO8 := Lib.hid ho.symm
                clear ho
                have hyxbc : xbc.length ≤ 75582 ∧ totalL xbc ≤ 529074 := by have hh := mulO_bounds xb xc; rw [HO8.out] at hh; exact hh
                refine (show Calls Tryz.prog 6 #[.agg #[.slice (some ad2) n2 c2], .agg #[.slice (some ⟨g15, 0, none⟩) 1 1]] _ (RetMC xbc.length xbc k8 _) from by have hc := iMultiplyLambda (some ad2) (some ⟨g15, 0, none⟩) (n2) c2 (1) 1 xb xc _ PB.out.rd PC.out.rd (by omega) (by omega) (by omega) (by omega); rw [HO8.out] at hc; exact hc).mono ?_
                rintro e w43 ⟨A18, c18, rfl, ho, hb⟩
                replace HB := Lib.hid (HB.out.ext hb)
                replace PA := Lib.hid (PA.out.ext hb)
                replace PB := Lib.hid (PB.out.ext hb)
                replace PP := Lib.hid (PP.out.ext hb)
                replace PC := Lib.hid (PC.out.ext hb)
                replace PL := Lib.hid (PL.out.ext hb)
                have hrxbc := ho.own.rd
                clear ho hb
                have BC := Lib.hid (BoxL.new (hrxbc) 26 rfl)
                obtain ⟨w44, hw44⟩ : ∃ W, W = w43.alloc (.cells #[.slice A18 xbc.length c18] 26) := ⟨_, rfl⟩
                obtain ⟨q18, hq18⟩ : ∃ q, q = w43.heap.size := ⟨_, rfl⟩
                rw [← hw44, ← hq18] at BC
                have ew44 : Ext w43 w44 := by rw [hw44]; exact (Ext.refl _).alloc _
                have xPA0 := PA.out.c0
                have xPAl := PA.out.lt
                have xPB0 := PB.out.c0
                have xPBl := PB.out.lt
                have xPP0 := PP.out.c0
                have xPPl := PP.out.lt
                have xPC0 := PC.out.c0
                have xPCl := PC.out.lt
                have xPL0 := PL.out.c0
                have xPLl := PL.out.lt
                replace HB := Lib.hid (HB.out.ext ew44)
                replace PA := Lib.hid (PA.out.ext ew44)
                replace PB := Lib.hid (PB.out.ext ew44)
                replace PP := Lib.hid (PP.out.ext ew44)
                replace PC := Lib.hid (PC.out.ext ew44)
                replace PL := Lib.hid (PL.out.ext ew44)
                have Hw44 := Lib.hid hw44
                have Hq18 := Lib.hid hq18
                clear hw44 hq18 ew44
                go_upto_region 44 with fail
                clear xPA0 xPAl xPB0 xPBl xPP0 xPPl xPC0 xPCl xPL0 xPLl
                rw [← Hw44.out, ← Hq18.out]
                clear hrxbc
                go_cut [283] from 278 to 282 (fun v wc => v = .bool (k7 == 0 && k8 == 0) ∧ wc = w44)
                case first =>
                  by_cases h7 : k7 = 0
                  · have e7 : (k7 == 0) = true := by simpa using h7
                    clear h7
                    by_cases h8 : k8 = 0
                    · have e8 : (k8 == 0) = true := by simpa using h8
                      clear h8
                      go_wp2_with fail
                      go_meet
                      exact ⟨by rw [e7, e8]; rfl, rfl⟩
                    · have e8 : (k8 == 0) = false := by simpa using h8
                      clear h8
                      go_wp2_with fail
                      go_meet
                      exact ⟨by rw [e7, e8]; rfl, rfl⟩
                  · have e7 : (k7 == 0) = false := by simpa using h7
                    clear h7
                    go_wp2_with fail
                    go_meet
                    exact ⟨by rw [e7]; rfl, rfl⟩
                case rest =>
                  obtain ⟨hc1, hc2⟩ := hcut
                  obtain rfl := hc2.symm
                  clear hc2
                  obtain ⟨kv, hkv⟩ : ∃ b, b = (k7 == 0 && k8 == 0) := ⟨_, rfl⟩
                  rw [← hkv] at hc1
                  obtain rfl := hc1.symm
                  have Hkv := Lib.hid hkv
                  clear hkv
                  have xPA0 := PA.out.c0
                  have xPAl := PA.out.lt
                  have xPB0 := PB.out.c0
                  have xPBl := PB.out.lt
                  have xPP0 := PP.out.c0
                  have xPPl := PP.out.lt
                  have xPC0 := PC.out.c0
                  have xPCl := PC.out.lt
                  have xPL0 := PL.out.c0
                  have xPLl := PL.out.lt
                  have xBC0 := BC.out.c0
                  have xBCl := BC.out.lt
                  go_upto_if 283 with fail
                  clear xPA0 xPAl xPB0 xPBl xPP0 xPPl xPC0 xPCl xPL0 xPLl xBC0 xBCl
                  go_cut [38, 39] from 283 to 297 (fun _ _ wc => Hid (Ext w44 wc))
                  case first =>
                    by_cases ek : kv = true
                    rotate_left
                    · skip
                      have ek1 : kv = false := by simpa using ek
                      rw [ek1]
                      have Ek := Lib.hid ek1
                      clear ek ek1
                      have xPA0 := PA.out.c0
                      have xPAl := PA.out.lt
                      have xPB0 := PB.out.c0
                      have xPBl := PB.out.lt
                      have xPP0 := PP.out.c0
                      have xPPl := PP.out.lt
                      have xPC0 := PC.out.c0
                      have xPCl := PC.out.lt
                      have xPL0 := PL.out.c0
                      have xPLl := PL.out.lt
                      have xBC0 := BC.out.c0
                      have xBCl := BC.out.lt
                      go_wp2_with fail
                      clear xPA0 xPAl xPB0 xPBl xPP0 xPPl xPC0 xPCl xPL0 xPLl xBC0 xBCl
                      go_meet
                      exact Lib.hid (Ext.refl _)
                    · skip
                      rw [ek]
                      have Ek := Lib.hid ek
                      clear ek
                      have xPA0 := PA.out.c0
                      have xPAl := PA.out.lt
                      have xPB0 := PB.out.c0
                      have xPBl := PB.out.lt
                      have xPP0 := PP.out.c0
                      have xPPl := PP.out.lt
                      have xPC0 := PC.out.c0
                      have xPCl := PC.out.lt
                      have xPL0 := PL.out.c0
                      have xPLl := PL.out.lt
                      have xBC0 := BC.out.c0
                      have xBCl := BC.out.lt
                      go_wp2_with fail
                      clear xPA0 xPAl xPB0 xPBl xPP0 xPPl xPC0 xPCl xPL0 xPLl xBC0 xBCl
                      have hk7 := Hkv.out.symm
                      rw [Ek.out] at hk7
                      rw [Bool.and_eq_true] at hk7
                      have h70 := Lib.hid (show k7 = 0 by simpa using hk7.1)
                      have h80 := Lib.hid (show k8 = 0 by simpa using hk7.2)
                      clear hk7
                      obtain ⟨o, ho⟩ : ∃ o, o = mulO xa xbc := ⟨_, rfl⟩
                      obtain ⟨k9, xr⟩ := o
                      have HO9 := Lib.hid ho.symm
                      clear ho
                      have hyxr : xr.length ≤ 75582 ∧ totalL xr ≤ 529074 := by have hh := mulO_bounds xa xbc; rw [HO9.out] at hh; exact hh
                      by_cases h9 : k9 = 0
                      · skip
                        have HEx : Hid (From w44 w44) := Lib.hid ⟨Ext.refl w44⟩
                        have HLR := Lib.hid (assoc_law hr0 HXC.out HO1.out (by rw [HO7.out, h70.out]) (by rw [HO8.out, h80.out]) (show mulO xa xbc = (0, xr) by rw [HO9.out, h9]) (by rw [HaL.out, HbL.out]; omega) HaE.out HbE.out)
                        have e9 : (k9 == 0) = true := by simpa using h9
                        clear h9
                        refine (show Calls Tryz.prog 6 #[.agg #[.slice (some ad1) n1 c1], .agg #[.slice A18 xbc.length c18]] _ (RetMC xr.length xr k9 _) from by have hc := iMultiplyLambda (some ad1) A18 (n1) c1 (xbc.length) c18 xa xbc _ PA.out.rd BC.out.rd (by omega) (by omega) (by omega) (by omega); rw [HO9.out] at hc; exact hc).mono ?_
                        rintro e w45 ⟨A19, c19, rfl, ho, hb⟩
                        replace HB := Lib.hid (HB.out.ext hb)
                        replace PA := Lib.hid (PA.out.ext hb)
                        replace PB := Lib.hid (PB.out.ext hb)
                        replace PP := Lib.hid (PP.out.ext hb)
                        replace PC := Lib.hid (PC.out.ext hb)
                        replace PL := Lib.hid (PL.out.ext hb)
                        replace BC := Lib.hid (BC.out.ext hb)
                        replace HEx := Lib.hid (HEx.out.ext hb)
                        have hrxr := ho.own.rd
                        clear ho hb
                        have PR := Lib.hid (BoxL.new (hrxr) 26 rfl)
                        obtain ⟨w46, hw46⟩ : ∃ W, W = w45.alloc (.cells #[.slice A19 xr.length c19] 26) := ⟨_, rfl⟩
                        obtain ⟨q19, hq19⟩ : ∃ q, q = w45.heap.size := ⟨_, rfl⟩
                        rw [← hw46, ← hq19] at PR
                        have ew46 : Ext w45 w46 := by rw [hw46]; exact (Ext.refl _).alloc _
                        have xPA0 := PA.out.c0
                        have xPAl := PA.out.lt
                        have xPB0 := PB.out.c0
                        have xPBl := PB.out.lt
                        have xPP0 := PP.out.c0
                        have xPPl := PP.out.lt
                        have xPC0 := PC.out.c0
                        have xPCl := PC.out.lt
                        have xPL0 := PL.out.c0
                        have xPLl := PL.out.lt
                        have xBC0 := BC.out.c0
                        have xBCl := BC.out.lt
                        replace HB := Lib.hid (HB.out.ext ew46)
                        replace PA := Lib.hid (PA.out.ext ew46)
                        replace PB := Lib.hid (PB.out.ext ew46)
                        replace PP := Lib.hid (PP.out.ext ew46)
                        replace PC := Lib.hid (PC.out.ext ew46)
                        replace PL := Lib.hid (PL.out.ext ew46)
                        replace BC := Lib.hid (BC.out.ext ew46)
                        replace HEx := Lib.hid (HEx.out.ext ew46)
                        have Hw46 := Lib.hid hw46
                        have Hq19 := Lib.hid hq19
                        clear hw46 hq19 ew46
                        go_wp2_with fail
                        clear xPA0 xPAl xPB0 xPBl xPP0 xPPl xPC0 xPCl xPL0 xPLl xBC0 xBCl
                        rw [← Hw46.out, ← Hq19.out]
                        clear hrxr
                        refine (lambda9_any A17 A19 c17 c19 xl.length xr.length xl xr _ _ _ PL.out.rd PR.out.rd (Nat.le_refl _) (Nat.le_refl _) (by omega) (by omega) (by omega) (by omega)).mono ?_
                        rintro e w47 ⟨rfl, hb⟩
                        replace HB := Lib.hid (HB.out.ext hb)
                        replace PA := Lib.hid (PA.out.ext hb)
                        replace PB := Lib.hid (PB.out.ext hb)
                        replace PP := Lib.hid (PP.out.ext hb)
                        replace PC := Lib.hid (PC.out.ext hb)
                        replace PL := Lib.hid (PL.out.ext hb)
                        replace BC := Lib.hid (BC.out.ext hb)
                        replace HEx := Lib.hid (HEx.out.ext hb)
                        replace PR := Lib.hid (PR.out.ext hb)
                        clear hb
                        rw [show decide (xl = xr) = true from decide_eq_true HLR.out]
                        have xPA0 := PA.out.c0
                        have xPAl := PA.out.lt
                        have xPB0 := PB.out.c0
                        have xPBl := PB.out.lt
                        have xPP0 := PP.out.c0
                        have xPPl := PP.out.lt
                        have xPC0 := PC.out.c0
                        have xPCl := PC.out.lt
                        have xPL0 := PL.out.c0
                        have xPLl := PL.out.lt
                        have xBC0 := BC.out.c0
                        have xBCl := BC.out.lt
                        have xPR0 := PR.out.c0
                        have xPRl := PR.out.lt
                        go_wp2_with fail
                        clear xPA0 xPAl xPB0 xPBl xPP0 xPPl xPC0 xPCl xPL0 xPLl xBC0 xBCl xPR0 xPRl
                        go_meet
                        exact Lib.hid HEx.out.b
                      · skip
                        have HEx : Hid (From w44 w44) := Lib.hid ⟨Ext.refl w44⟩
                        have e9 : (k9 == 0) = false := by simpa using h9
                        clear h9
                        refine (show Calls Tryz.prog 6 #[.agg #[.slice (some ad1) n1 c1], .agg #[.slice A18 xbc.length c18]] _ (RetMC xr.length xr k9 _) from by have hc := iMultiplyLambda (some ad1) A18 (n1) c1 (xbc.length) c18 xa xbc _ PA.out.rd BC.out.rd (by omega) (by omega) (by omega) (by omega); rw [HO9.out] at hc; exact hc).mono ?_
                        rintro e w45 ⟨A19, c19, rfl, ho, hb⟩
                        replace HB := Lib.hid (HB.out.ext hb)
                        replace PA := Lib.hid (PA.out.ext hb)
                        replace PB := Lib.hid (PB.out.ext hb)
                        replace PP := Lib.hid (PP.out.ext hb)
                        replace PC := Lib.hid (PC.out.ext hb)
                        replace PL := Lib.hid (PL.out.ext hb)
                        replace BC := Lib.hid (BC.out.ext hb)
                        replace HEx := Lib.hid (HEx.out.ext hb)
                        have hrxr := ho.own.rd
                        clear ho hb
                        have PR := Lib.hid (BoxL.new (hrxr) 26 rfl)
                        obtain ⟨w46, hw46⟩ : ∃ W, W = w45.alloc (.cells #[.slice A19 xr.length c19] 26) := ⟨_, rfl⟩
                        obtain ⟨q19, hq19⟩ : ∃ q, q = w45.heap.size := ⟨_, rfl⟩
                        rw [← hw46, ← hq19] at PR
                        have ew46 : Ext w45 w46 := by rw [hw46]; exact (Ext.refl _).alloc _
                        have xPA0 := PA.out.c0
                        have xPAl := PA.out.lt
                        have xPB0 := PB.out.c0
                        have xPBl := PB.out.lt
                        have xPP0 := PP.out.c0
                        have xPPl := PP.out.lt
                        have xPC0 := PC.out.c0
                        have xPCl := PC.out.lt
                        have xPL0 := PL.out.c0
                        have xPLl := PL.out.lt
                        have xBC0 := BC.out.c0
                        have xBCl := BC.out.lt
                        replace HB := Lib.hid (HB.out.ext ew46)
                        replace PA := Lib.hid (PA.out.ext ew46)
                        replace PB := Lib.hid (PB.out.ext ew46)
                        replace PP := Lib.hid (PP.out.ext ew46)
                        replace PC := Lib.hid (PC.out.ext ew46)
                        replace PL := Lib.hid (PL.out.ext ew46)
                        replace BC := Lib.hid (BC.out.ext ew46)
                        replace HEx := Lib.hid (HEx.out.ext ew46)
                        have Hw46 := Lib.hid hw46
                        have Hq19 := Lib.hid hq19
                        clear hw46 hq19 ew46
                        go_wp2_with fail
                        clear xPA0 xPAl xPB0 xPBl xPP0 xPPl xPC0 xPCl xPL0 xPLl xBC0 xBCl
                        rw [← Hw46.out, ← Hq19.out]
                        clear hrxr
                        go_meet
                        exact Lib.hid HEx.out.b
                  case rest =>
                    have hb := hcut.out
                    replace HB := Lib.hid (HB.out.ext hb)
                    replace PA := Lib.hid (PA.out.ext hb)
                    replace PB := Lib.hid (PB.out.ext hb)
                    replace PP := Lib.hid (PP.out.ext hb)
                    replace PC := Lib.hid (PC.out.ext hb)
                    replace PL := Lib.hid (PL.out.ext hb)
                    replace BC := Lib.hid (BC.out.ext hb)
                    clear hb hcut
                    clear PL
                    clear BC
                    clear PC
                    obtain ⟨da, db, xf1, xs1, xu, L1, L2, L3, L4, L5, L6⟩ := leib_law HO1.out HaE.out HbE.out (by rw [HaL.out, HbL.out]; omega)
                    have HL1 := Lib.hid L1
                    have HL2 := Lib.hid L2
                    have HL3 := Lib.hid L3
                    have HL4 := Lib.hid L4
                    have HL5 := Lib.hid L5
                    have HL6 := Lib.hid L6
                    clear L1 L2 L3 L4 L5 L6
                    have hyxu : xu.length ≤ 75582 ∧ totalL xu ≤ 529074 := by have hh := difO_bounds xp; rw [HL1.out] at hh; exact hh
                    have hyda : da.length ≤ 75582 ∧ totalL da ≤ 529074 := by have hh := difO_bounds xa; rw [HL2.out] at hh; exact hh
                    have hydb : db.length ≤ 75582 ∧ totalL db ≤ 529074 := by have hh := difO_bounds xb; rw [HL3.out] at hh; exact hh
                    have hyxf1 : xf1.length ≤ 75582 ∧ totalL xf1 ≤ 529074 := by have hh := mulO_bounds da xb; rw [HL4.out] at hh; exact hh
                    have hyxs1 : xs1.length ≤ 75582 ∧ totalL xs1 ≤ 529074 := by have hh := mulO_bounds xa db; rw [HL5.out] at hh; exact hh
                    have xPA0 := PA.out.c0
                    have xPAl := PA.out.lt
                    have xPB0 := PB.out.c0
                    have xPBl := PB.out.lt
                    have xPP0 := PP.out.c0
                    have xPPl := PP.out.lt
                    go_wp2_with fail
                    clear xPA0 xPAl xPB0 xPBl xPP0 xPPl
                    refine (show Calls Tryz.prog 18 #[.agg #[.slice A3 xp.length c3]] _ (RetMC xu.length xu 0 _) from by have hc := iDifferentialOf A3 (xp.length) c3 xp _ PP.out.rd (by omega) (by omega); rw [HL1.out] at hc; exact hc).mono ?_
                    rintro e w45 ⟨A20, c20, rfl, ho, hb⟩
                    replace HB := Lib.hid (HB.out.ext hb)
                    replace PA := Lib.hid (PA.out.ext hb)
                    replace PB := Lib.hid (PB.out.ext hb)
                    replace PP := Lib.hid (PP.out.ext hb)
                    have hrxu := ho.own.rd
                    clear ho hb
                    have QU := Lib.hid (BoxL.new (hrxu) 26 rfl)
                    obtain ⟨w46, hw46⟩ : ∃ W, W = w45.alloc (.cells #[.slice A20 xu.length c20] 26) := ⟨_, rfl⟩
                    obtain ⟨q20, hq20⟩ : ∃ q, q = w45.heap.size := ⟨_, rfl⟩
                    rw [← hw46, ← hq20] at QU
                    have ew46 : Ext w45 w46 := by rw [hw46]; exact (Ext.refl _).alloc _
                    have xPA0 := PA.out.c0
                    have xPAl := PA.out.lt
                    have xPB0 := PB.out.c0
                    have xPBl := PB.out.lt
                    have xPP0 := PP.out.c0
                    have xPPl := PP.out.lt
                    replace HB := Lib.hid (HB.out.ext ew46)
                    replace PA := Lib.hid (PA.out.ext ew46)
                    replace PB := Lib.hid (PB.out.ext ew46)
                    replace PP := Lib.hid (PP.out.ext ew46)
                    have Hw46 := Lib.hid hw46
                    have Hq20 := Lib.hid hq20
                    clear hw46 hq20 ew46
                    go_wp2_with fail
                    clear xPA0 xPAl xPB0 xPBl xPP0 xPPl
                    rw [← Hw46.out, ← Hq20.out]
                    clear hrxu
                    refine (show Calls Tryz.prog 18 #[.agg #[.slice (some ad1) n1 c1]] _ (RetMC da.length da 0 _) from by have hc := iDifferentialOf (some ad1) (n1) c1 xa _ PA.out.rd (by omega) (by omega); rw [HL2.out] at hc; exact hc).mono ?_
                    rintro e w47 ⟨A21, c21, rfl, ho, hb⟩
                    replace HB := Lib.hid (HB.out.ext hb)
                    replace PA := Lib.hid (PA.out.ext hb)
                    replace PB := Lib.hid (PB.out.ext hb)
                    replace PP := Lib.hid (PP.out.ext hb)
                    replace QU := Lib.hid (QU.out.ext hb)
                    have hrda := ho.own.rd
                    clear ho hb
                    have QA := Lib.hid (BoxL.new (hrda) 26 rfl)
                    obtain ⟨w48, hw48⟩ : ∃ W, W = w47.alloc (.cells #[.slice A21 da.length c21] 26) := ⟨_, rfl⟩
                    obtain ⟨q21, hq21⟩ : ∃ q, q = w47.heap.size := ⟨_, rfl⟩
                    rw [← hw48, ← hq21] at QA
                    have ew48 : Ext w47 w48 := by rw [hw48]; exact (Ext.refl _).alloc _
                    have xPA0 := PA.out.c0
                    have xPAl := PA.out.lt
                    have xPB0 := PB.out.c0
                    have xPBl := PB.out.lt
                    have xPP0 := PP.out.c0
                    have xPPl := PP.out.lt
                    have xQU0 := QU.out.c0
                    have xQUl := QU.out.lt
                    replace HB := Lib.hid (HB.out.ext ew48)
                    replace PA := Lib.hid (PA.out.ext ew48)
                    replace PB := Lib.hid (PB.out.ext ew48)
                    replace PP := Lib.hid (PP.out.ext ew48)
                    replace QU := Lib.hid (QU.out.ext ew48)
                    have Hw48 := Lib.hid hw48
                    have Hq21 := Lib.hid hq21
                    clear hw48 hq21 ew48
                    go_wp2_with fail
                    clear xPA0 xPAl xPB0 xPBl xPP0 xPPl xQU0 xQUl
                    rw [← Hw48.out, ← Hq21.out]
                    clear hrda
                    refine (show Calls Tryz.prog 18 #[.agg #[.slice (some ad2) n2 c2]] _ (RetMC db.length db 0 _) from by have hc := iDifferentialOf (some ad2) (n2) c2 xb _ PB.out.rd (by omega) (by omega); rw [HL3.out] at hc; exact hc).mono ?_
                    rintro e w49 ⟨A22, c22, rfl, ho, hb⟩
                    replace HB := Lib.hid (HB.out.ext hb)
                    replace PA := Lib.hid (PA.out.ext hb)
                    replace PB := Lib.hid (PB.out.ext hb)
                    replace PP := Lib.hid (PP.out.ext hb)
                    replace QU := Lib.hid (QU.out.ext hb)
                    replace QA := Lib.hid (QA.out.ext hb)
                    have hrdb := ho.own.rd
                    clear ho hb
                    have QB := Lib.hid (BoxL.new (hrdb) 26 rfl)
                    obtain ⟨w50, hw50⟩ : ∃ W, W = w49.alloc (.cells #[.slice A22 db.length c22] 26) := ⟨_, rfl⟩
                    obtain ⟨q22, hq22⟩ : ∃ q, q = w49.heap.size := ⟨_, rfl⟩
                    rw [← hw50, ← hq22] at QB
                    have ew50 : Ext w49 w50 := by rw [hw50]; exact (Ext.refl _).alloc _
                    have xPA0 := PA.out.c0
                    have xPAl := PA.out.lt
                    have xPB0 := PB.out.c0
                    have xPBl := PB.out.lt
                    have xPP0 := PP.out.c0
                    have xPPl := PP.out.lt
                    have xQU0 := QU.out.c0
                    have xQUl := QU.out.lt
                    have xQA0 := QA.out.c0
                    have xQAl := QA.out.lt
                    replace HB := Lib.hid (HB.out.ext ew50)
                    replace PA := Lib.hid (PA.out.ext ew50)
                    replace PB := Lib.hid (PB.out.ext ew50)
                    replace PP := Lib.hid (PP.out.ext ew50)
                    replace QU := Lib.hid (QU.out.ext ew50)
                    replace QA := Lib.hid (QA.out.ext ew50)
                    have Hw50 := Lib.hid hw50
                    have Hq22 := Lib.hid hq22
                    clear hw50 hq22 ew50
                    go_wp2_with fail
                    clear xPA0 xPAl xPB0 xPBl xPP0 xPPl xQU0 xQUl xQA0 xQAl
                    rw [← Hw50.out, ← Hq22.out]
                    clear hrdb
                    refine (show Calls Tryz.prog 6 #[.agg #[.slice A21 da.length c21], .agg #[.slice (some ad2) n2 c2]] _ (RetMC xf1.length xf1 0 _) from by have hc := iMultiplyLambda A21 (some ad2) (da.length) c21 (n2) c2 da xb _ QA.out.rd PB.out.rd (by omega) (by omega) (by omega) (by omega); rw [HL4.out] at hc; exact hc).mono ?_
                    rintro e w51 ⟨A23, c23, rfl, ho, hb⟩
                    replace HB := Lib.hid (HB.out.ext hb)
                    replace PA := Lib.hid (PA.out.ext hb)
                    replace PB := Lib.hid (PB.out.ext hb)
                    replace PP := Lib.hid (PP.out.ext hb)
                    replace QU := Lib.hid (QU.out.ext hb)
                    replace QA := Lib.hid (QA.out.ext hb)
                    replace QB := Lib.hid (QB.out.ext hb)
                    have hrxf1 := ho.own.rd
                    clear ho hb
                    have QF := Lib.hid (BoxL.new (hrxf1) 26 rfl)
                    obtain ⟨w52, hw52⟩ : ∃ W, W = w51.alloc (.cells #[.slice A23 xf1.length c23] 26) := ⟨_, rfl⟩
                    obtain ⟨q23, hq23⟩ : ∃ q, q = w51.heap.size := ⟨_, rfl⟩
                    rw [← hw52, ← hq23] at QF
                    have ew52 : Ext w51 w52 := by rw [hw52]; exact (Ext.refl _).alloc _
                    have xPA0 := PA.out.c0
                    have xPAl := PA.out.lt
                    have xPB0 := PB.out.c0
                    have xPBl := PB.out.lt
                    have xPP0 := PP.out.c0
                    have xPPl := PP.out.lt
                    have xQU0 := QU.out.c0
                    have xQUl := QU.out.lt
                    have xQA0 := QA.out.c0
                    have xQAl := QA.out.lt
                    have xQB0 := QB.out.c0
                    have xQBl := QB.out.lt
                    replace HB := Lib.hid (HB.out.ext ew52)
                    replace PA := Lib.hid (PA.out.ext ew52)
                    replace PB := Lib.hid (PB.out.ext ew52)
                    replace PP := Lib.hid (PP.out.ext ew52)
                    replace QU := Lib.hid (QU.out.ext ew52)
                    replace QA := Lib.hid (QA.out.ext ew52)
                    replace QB := Lib.hid (QB.out.ext ew52)
                    have Hw52 := Lib.hid hw52
                    have Hq23 := Lib.hid hq23
                    clear hw52 hq23 ew52
                    go_wp2_with fail
                    clear xPA0 xPAl xPB0 xPBl xPP0 xPPl xQU0 xQUl xQA0 xQAl xQB0 xQBl
                    rw [← Hw52.out, ← Hq23.out]
                    clear hrxf1
                    refine (show Calls Tryz.prog 6 #[.agg #[.slice (some ad1) n1 c1], .agg #[.slice A22 db.length c22]] _ (RetMC xs1.length xs1 0 _) from by have hc := iMultiplyLambda (some ad1) A22 (n1) c1 (db.length) c22 xa db _ PA.out.rd QB.out.rd (by omega) (by omega) (by omega) (by omega); rw [HL5.out] at hc; exact hc).mono ?_
                    rintro e w53 ⟨A24, c24, rfl, ho, hb⟩
                    replace HB := Lib.hid (HB.out.ext hb)
                    replace PA := Lib.hid (PA.out.ext hb)
                    replace PB := Lib.hid (PB.out.ext hb)
                    replace PP := Lib.hid (PP.out.ext hb)
                    replace QU := Lib.hid (QU.out.ext hb)
                    replace QA := Lib.hid (QA.out.ext hb)
                    replace QB := Lib.hid (QB.out.ext hb)
                    replace QF := Lib.hid (QF.out.ext hb)
                    have hrxs1 := ho.own.rd
                    clear ho hb
                    have QS := Lib.hid (BoxL.new (hrxs1) 26 rfl)
                    obtain ⟨w54, hw54⟩ : ∃ W, W = w53.alloc (.cells #[.slice A24 xs1.length c24] 26) := ⟨_, rfl⟩
                    obtain ⟨q24, hq24⟩ : ∃ q, q = w53.heap.size := ⟨_, rfl⟩
                    rw [← hw54, ← hq24] at QS
                    have ew54 : Ext w53 w54 := by rw [hw54]; exact (Ext.refl _).alloc _
                    have xPA0 := PA.out.c0
                    have xPAl := PA.out.lt
                    have xPB0 := PB.out.c0
                    have xPBl := PB.out.lt
                    have xPP0 := PP.out.c0
                    have xPPl := PP.out.lt
                    have xQU0 := QU.out.c0
                    have xQUl := QU.out.lt
                    have xQA0 := QA.out.c0
                    have xQAl := QA.out.lt
                    have xQB0 := QB.out.c0
                    have xQBl := QB.out.lt
                    have xQF0 := QF.out.c0
                    have xQFl := QF.out.lt
                    replace HB := Lib.hid (HB.out.ext ew54)
                    replace PA := Lib.hid (PA.out.ext ew54)
                    replace PB := Lib.hid (PB.out.ext ew54)
                    replace PP := Lib.hid (PP.out.ext ew54)
                    replace QU := Lib.hid (QU.out.ext ew54)
                    replace QA := Lib.hid (QA.out.ext ew54)
                    replace QB := Lib.hid (QB.out.ext ew54)
                    replace QF := Lib.hid (QF.out.ext ew54)
                    have Hw54 := Lib.hid hw54
                    have Hq24 := Lib.hid hq24
                    clear hw54 hq24 ew54
                    go_wp2_with fail
                    clear xPA0 xPAl xPB0 xPBl xPP0 xPPl xQU0 xQUl xQA0 xQAl xQB0 xQBl xQF0 xQFl
                    rw [← Hw54.out, ← Hq24.out]
                    clear hrxs1
                    have hyxu2 := hyxu
                    refine (show Calls Tryz.prog 12 #[.agg #[.slice A23 xf1.length c23], .agg #[.slice A24 xs1.length c24]] _ (RetMC xu.length xu 0 _) from by have hc := iAddLambda A23 A24 (xf1.length) c23 (xs1.length) c24 xf1 xs1 _ QF.out.rd QS.out.rd (by omega) (by omega) (by omega) (by omega); rw [HL6.out] at hc; exact hc).mono ?_
                    rintro e w55 ⟨A25, c25, rfl, ho, hb⟩
                    replace HB := Lib.hid (HB.out.ext hb)
                    replace PA := Lib.hid (PA.out.ext hb)
                    replace PB := Lib.hid (PB.out.ext hb)
                    replace PP := Lib.hid (PP.out.ext hb)
                    replace QU := Lib.hid (QU.out.ext hb)
                    replace QA := Lib.hid (QA.out.ext hb)
                    replace QB := Lib.hid (QB.out.ext hb)
                    replace QF := Lib.hid (QF.out.ext hb)
                    replace QS := Lib.hid (QS.out.ext hb)
                    have hrxu := ho.own.rd
                    clear ho hb
                    have QD := Lib.hid (BoxL.new (hrxu) 26 rfl)
                    obtain ⟨w56, hw56⟩ : ∃ W, W = w55.alloc (.cells #[.slice A25 xu.length c25] 26) := ⟨_, rfl⟩
                    obtain ⟨q25, hq25⟩ : ∃ q, q = w55.heap.size := ⟨_, rfl⟩
                    rw [← hw56, ← hq25] at QD
                    have ew56 : Ext w55 w56 := by rw [hw56]; exact (Ext.refl _).alloc _
                    have xPA0 := PA.out.c0
                    have xPAl := PA.out.lt
                    have xPB0 := PB.out.c0
                    have xPBl := PB.out.lt
                    have xPP0 := PP.out.c0
                    have xPPl := PP.out.lt
                    have xQU0 := QU.out.c0
                    have xQUl := QU.out.lt
                    have xQA0 := QA.out.c0
                    have xQAl := QA.out.lt
                    have xQB0 := QB.out.c0
                    have xQBl := QB.out.lt
                    have xQF0 := QF.out.c0
                    have xQFl := QF.out.lt
                    have xQS0 := QS.out.c0
                    have xQSl := QS.out.lt
                    replace HB := Lib.hid (HB.out.ext ew56)
                    replace PA := Lib.hid (PA.out.ext ew56)
                    replace PB := Lib.hid (PB.out.ext ew56)
                    replace PP := Lib.hid (PP.out.ext ew56)
                    replace QU := Lib.hid (QU.out.ext ew56)
                    replace QA := Lib.hid (QA.out.ext ew56)
                    replace QB := Lib.hid (QB.out.ext ew56)
                    replace QF := Lib.hid (QF.out.ext ew56)
                    replace QS := Lib.hid (QS.out.ext ew56)
                    have Hw56 := Lib.hid hw56
                    have Hq25 := Lib.hid hq25
                    clear hw56 hq25 ew56
                    go_wp2_with fail
                    clear xPA0 xPAl xPB0 xPBl xPP0 xPPl xQU0 xQUl xQA0 xQAl xQB0 xQBl xQF0 xQFl xQS0 xQSl
                    rw [← Hw56.out, ← Hq25.out]
                    clear hrxu
                    refine (lambda9_any A20 A25 c20 c25 xu.length xu.length xu xu _ _ _ QU.out.rd QD.out.rd (Nat.le_refl _) (Nat.le_refl _) (by omega) (by omega) (by omega) (by omega)).mono ?_
                    rintro e w57 ⟨rfl, hb⟩
                    replace HB := Lib.hid (HB.out.ext hb)
                    replace PA := Lib.hid (PA.out.ext hb)
                    replace PB := Lib.hid (PB.out.ext hb)
                    replace PP := Lib.hid (PP.out.ext hb)
                    replace QU := Lib.hid (QU.out.ext hb)
                    replace QA := Lib.hid (QA.out.ext hb)
                    replace QB := Lib.hid (QB.out.ext hb)
                    replace QF := Lib.hid (QF.out.ext hb)
                    replace QS := Lib.hid (QS.out.ext hb)
                    replace QD := Lib.hid (QD.out.ext hb)
                    clear hb
                    rw [show decide (xu = xu) = true from by simp]
                    have xPA0 := PA.out.c0
                    have xPAl := PA.out.lt
                    have xPB0 := PB.out.c0
                    have xPBl := PB.out.lt
                    have xPP0 := PP.out.c0
                    have xPPl := PP.out.lt
                    have xQU0 := QU.out.c0
                    have xQUl := QU.out.lt
                    have xQA0 := QA.out.c0
                    have xQAl := QA.out.lt
                    have xQB0 := QB.out.c0
                    have xQBl := QB.out.lt
                    have xQF0 := QF.out.c0
                    have xQFl := QF.out.lt
                    have xQS0 := QS.out.c0
                    have xQSl := QS.out.lt
                    have xQD0 := QD.out.c0
                    have xQDl := QD.out.lt
                    go_wp2_with fail
                    clear xPA0 xPAl xPB0 xPBl xPP0 xPPl xQU0 xQUl xQA0 xQAl xQB0 xQBl xQF0 xQFl xQS0 xQSl xQD0 xQDl
                    rw [HR.out]
                    exact ⟨rfl, HB.out.b⟩
        · skip
          have e1 : (k1 != 0) = true := by simpa using hk1
          have xPA0 := PA.out.c0
          have xPAl := PA.out.lt
          have xPB0 := PB.out.c0
          have xPBl := PB.out.lt
          have xPP0 := PP.out.c0
          have xPPl := PP.out.lt
          go_quiet (fail)
          go_wp2_with fail
          rw [HR.out]
          exact ⟨rfl, below_drewN HB.out.b _⟩
end Go.Proofs.YtgmbbpaokcjnhaaGreatDoor
