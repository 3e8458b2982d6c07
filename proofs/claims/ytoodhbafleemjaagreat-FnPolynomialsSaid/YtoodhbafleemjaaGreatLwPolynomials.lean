/- The walk of FnPolynomials. -/
import Derived.Test.YtoodhbafleemjaaGreatSbl
import Derived.Test.YtoodhbafleemjaaGreatDrx
import Derived.Test.YtoodhbafleemjaaGreatSbs
import Derived.Test.YtoodhbafleemjaaGreatLwh
import Derived.Test.YtoodhbafleemjaaGreatTms
import Derived.Test.YtoodhbafleemjaaGreatSquO
import Derived.Test.YtoodhbafleemjaaGreatAddP
import Derived.Test.YtoodhbafleemjaaGreatTot
import Derived.Test.YtoodhbafleemjaaGreatDrb
import Derived.Lib.QuietBelow
import Derived.Deep.DeepCutAuto
namespace Go.Proofs.YtoodhbafleemjaaGreat
open Go.RowKit
set_option linter.unusedVariables false

theorem sIsPoly (v : Int) (A : Option Addr) (n c : Nat) (xss : List (List Int)) (w : World) (h : RdL w w.heap.size A n c xss) (hn : n ≤ 2000000) (ht : totalL xss ≤ 2000000) :
    Calls Tryz.prog 11 #[.agg #[.int .i64 v, .slice A n c]] w (RetBb (polB v xss) w) := by
  have hb0 : Below w.heap.size w (w.alloc (.cells #[.int .i64 v, .slice A n c] 26)) := (Below.refl _ _).alloc (Nat.le_refl _) _
  have H := Lib.hid (l08Is_any v A n c xss _ ((h.below hb0).mono hb0.size) hn ht); clear h
  have Hb0 := Lib.hid hb0; clear hb0
  go_enter Tryz.func11, Tryz.ntmps11
  go_wp2_with fail
  refine H.out.mono ?_
  rintro e w1 ⟨rfl, hb1⟩
  go_wp2_with fail
  go_ret
  exact RetBb.mk rfl (Hb0.out.trans (hb1.mono Hb0.out.size))
/-- slices of polynomials that read -/
structure QP (w : World) (A : Option Addr) (n c : Nat) (ps : Pls) : Prop where
  rd : RdQ w w.heap.size A n c ps
theorem QP.ext {w w' : World} {A : Option Addr} {n c : Nat} {ps : Pls} (h : QP w A n c ps) (hb : Ext w w') : QP w' A n c ps := ⟨(h.rd.below hb).mono hb.size⟩
/-- polynomials of one's own above a block -/
structure OwnI (w : World) (B : Nat) (A : Option Addr) (n c : Nat) (xss : Pol) : Prop where
  o : OwnM w B w.heap.size A n c xss
theorem OwnI.ext {w w' : World} {B : Nat} {A : Option Addr} {n c : Nat} {xss : Pol} (h : OwnI w B A n c xss) (hb : Ext w w') : OwnI w' B A n c xss := ⟨(h.o.below hb).mono (Nat.le_refl _) hb.size⟩
/-- Cartan's sum as the loop keeps it -/
def CarI (w : World) (q : Nat) (v : Int) (f g : Pol) (i j : Nat) : Prop :=
  ∃ (A : Option Addr) (n c : Nat), Cells [(q, 0, .int .i64 v), (q, 1, .slice A n c)] w ∧ RdL w w.heap.size A n c (oddL (carS f g i j)) ∧ (oddL (carS f g i j)).length ≤ 2000 ∧ totalL (oddL (carS f g i j)) ≤ 8000

set_option maxRecDepth 100000 in
set_option maxHeartbeats 8000000 in
theorem lawPolynomials (A : Option Addr) (n c : Nat) (w : World) (h : RdB w w.heap.size A n c) :
    Calls Tryz.prog 3 #[.slice A n c] w fun e w' => e = .returned (.bool true) ∧ Below w.heap.size w w' := by
  obtain ⟨R, hR⟩ : ∃ R : Ending → World → Prop, R = fun e w' => e = .returned (.bool true) ∧ Below w.heap.size w w' := ⟨_, rfl⟩
  have HR := Lib.hid hR
  rw [← hR]
  clear hR
  go_enter Tryz.func3, Tryz.ntmps3
  go_wp2_with fail
  refine (bigLaw_any A n c w).mono ?_
  rintro e w1 ⟨rfl, hw1⟩
  obtain rfl := hw1.symm
  by_cases hn : 4096 < n
  · rw [decide_eq_true hn]
    go_wp2_with fail
    rw [HR.out]
    exact ⟨rfl, Below.refl _ _⟩
  rw [decide_eq_false hn]
  have hN : n ≤ 4096 := by omega
  clear hn
  go_wp2_with fail
  have HB : Hid (From w w) := Lib.hid ⟨Ext.refl w⟩
  refine (drawMultiplyPolys_any A n c w ((h.below HB.out.b).mono HB.out.b.size) hN).mono ?_
  rintro e w2 ⟨v, A1, n1, c1, xss, u, A2, n2, c2, yss, rfl, ho1, ho2, hn1, ht1, hn2, ht2, hb⟩
  replace HB := Lib.hid (HB.out.ext hb)
  have hrxss := ho1.rd
  have hryss := ho2.rd
  clear ho1 ho2 hb
  have F := Lib.hid (BoxP.new (v := v) hrxss 26 rfl)
  obtain ⟨w3, hw3⟩ : ∃ W, W = w2.alloc (.cells #[.int .i64 v, .slice A1 n1 c1] 26) := ⟨_, rfl⟩
  obtain ⟨q1, hq1⟩ : ∃ q, q = w2.heap.size := ⟨_, rfl⟩
  rw [← hw3, ← hq1] at F
  have ew3 : Ext w2 w3 := by rw [hw3]; exact (Ext.refl _).alloc _
  have Y := Lib.hid (BoxP.new (v := u) (w := w3) ((hryss).below ew3 |>.mono ew3.size) 26 rfl)
  obtain ⟨w4, hw4⟩ : ∃ W, W = w3.alloc (.cells #[.int .i64 u, .slice A2 n2 c2] 26) := ⟨_, rfl⟩
  obtain ⟨q2, hq2⟩ : ∃ q, q = w3.heap.size := ⟨_, rfl⟩
  rw [← hw4, ← hq2] at Y
  have ew4 : Ext w3 w4 := by rw [hw4]; exact (Ext.refl _).alloc _
  have hsw4 : w3.heap.size = q1 + 1 := by rw [hw3, hq1]; simp
  replace F := Lib.hid (F.out.ext ew4)
  replace HB := Lib.hid (HB.out.ext (Ext.trans ew3 ew4))
  have Hw3 := Lib.hid hw3
  have Hq1 := Lib.hid hq1
  have Hw4 := Lib.hid hw4
  have Hq2 := Lib.hid (hq2.trans hsw4)
  clear hw3 hq1 ew3 hw4 hq2 ew4 hsw4
  go_wp2_with fail
  rw [← Hw3.out, ← Hw4.out, ← Hq1.out, ← Hq2.out]
  clear hrxss hryss
  obtain ⟨o, ho⟩ : ∃ o, o = mlpO v xss u yss := ⟨_, rfl⟩
  obtain ⟨u1, ps, k1⟩ := o
  have HO1 := Lib.hid ho.symm
  clear ho
  have hyps : ps.length ≤ 2000 ∧ totalL ps ≤ 8000 := by have hh := mlpO_b v xss u yss; rw [HO1.out] at hh; exact hh
  refine (show Calls Tryz.prog 7 #[.agg #[.int .i64 v, .slice A1 n1 c1], .agg #[.int .i64 u, .slice A2 n2 c2]] _ (RetNC u1 ps.length ps k1 _) from by have hc := iMultiplyPolys v u A1 A2 (n1) c1 (n2) c2 xss yss _ F.out.rd Y.out.rd (by omega) (by omega) (by omega) (by omega); rw [HO1.out] at hc; exact hc).mono ?_
  rintro e w5 ⟨A3, c3, rfl, ho, hb⟩
  replace HB := Lib.hid (HB.out.ext hb)
  replace F := Lib.hid (F.out.ext hb)
  replace Y := Lib.hid (Y.out.ext hb)
  have hrps := ho.own.rd
  clear ho hb
  have P := Lib.hid (BoxP.new (v := u1) (hrps) 26 rfl)
  obtain ⟨w6, hw6⟩ : ∃ W, W = w5.alloc (.cells #[.int .i64 u1, .slice A3 ps.length c3] 26) := ⟨_, rfl⟩
  obtain ⟨q3, hq3⟩ : ∃ q, q = w5.heap.size := ⟨_, rfl⟩
  rw [← hw6, ← hq3] at P
  have ew6 : Ext w5 w6 := by rw [hw6]; exact (Ext.refl _).alloc _
  have xF0 := F.out.c0
  have xF1 := F.out.c1
  have xFl := F.out.lt
  have xY0 := Y.out.c0
  have xY1 := Y.out.c1
  have xYl := Y.out.lt
  replace HB := Lib.hid (HB.out.ext ew6)
  replace F := Lib.hid (F.out.ext ew6)
  replace Y := Lib.hid (Y.out.ext ew6)
  have Hw6 := Lib.hid hw6
  have Hq3 := Lib.hid hq3
  clear hw6 hq3 ew6
  go_wp2_with fail
  clear xF0 xF1 xFl xY0 xY1 xYl
  rw [← Hw6.out, ← Hq3.out]
  clear hrps
  refine (show Calls Tryz.prog 8 #[.agg #[.int .i64 v, .slice A1 n1 c1], .agg #[.int .i64 u, .slice A2 n2 c2]] _ (RetNC u1 ps.length ps k1 _) from by have hc := sMultiplyPolys v u A1 A2 (n1) c1 (n2) c2 xss yss _ F.out.rd Y.out.rd (by omega) (by omega) (by omega) (by omega); rw [HO1.out] at hc; exact hc).mono ?_
  rintro e w7 ⟨A4, c4, rfl, ho, hb⟩
  replace HB := Lib.hid (HB.out.ext hb)
  replace F := Lib.hid (F.out.ext hb)
  replace Y := Lib.hid (Y.out.ext hb)
  replace P := Lib.hid (P.out.ext hb)
  have hrps := ho.own.rd
  clear ho hb
  have Q := Lib.hid (BoxP.new (v := u1) (hrps) 26 rfl)
  obtain ⟨w8, hw8⟩ : ∃ W, W = w7.alloc (.cells #[.int .i64 u1, .slice A4 ps.length c4] 26) := ⟨_, rfl⟩
  obtain ⟨q4, hq4⟩ : ∃ q, q = w7.heap.size := ⟨_, rfl⟩
  rw [← hw8, ← hq4] at Q
  have ew8 : Ext w7 w8 := by rw [hw8]; exact (Ext.refl _).alloc _
  have xF0 := F.out.c0
  have xF1 := F.out.c1
  have xFl := F.out.lt
  have xY0 := Y.out.c0
  have xY1 := Y.out.c1
  have xYl := Y.out.lt
  have xP0 := P.out.c0
  have xP1 := P.out.c1
  have xPl := P.out.lt
  replace HB := Lib.hid (HB.out.ext ew8)
  replace F := Lib.hid (F.out.ext ew8)
  replace Y := Lib.hid (Y.out.ext ew8)
  replace P := Lib.hid (P.out.ext ew8)
  have Hw8 := Lib.hid hw8
  have Hq4 := Lib.hid hq4
  clear hw8 hq4 ew8
  go_wp2_with fail
  clear xF0 xF1 xFl xY0 xY1 xYl xP0 xP1 xPl
  rw [← Hw8.out, ← Hq4.out]
  clear hrps
  obtain ⟨t1, ht1x⟩ : ∃ t, t = polB v xss := ⟨_, rfl⟩
  have HT1 := Lib.hid ht1x
  clear ht1x
  have HC1 := fun (W : World) (hW : Below w8.heap.size w8 W) => Lib.hid (show Calls Tryz.prog 9 #[.agg #[.int .i64 u1, .slice A3 ps.length c3], .agg #[.int .i64 u1, .slice A4 ps.length c4]] W (RetBb true W) from by
    have hc := poly5_any u1 u1 A3 A4 c3 c4 ps.length ps.length ps ps W _ _ ((P.out.rd.below hW).mono hW.size) ((Q.out.rd.below hW).mono hW.size) (Nat.le_refl _) (Nat.le_refl _) (by omega) (by omega) (by omega) (by omega)
    rwa [show decide (u1 = u1 ∧ ps = ps) = true from by simp] at hc)
  have HC2 := fun (W : World) (hW : Below w8.heap.size w8 W) => Lib.hid (show Calls Tryz.prog 10 #[.agg #[.int .i64 v, .slice A1 n1 c1]] W (RetBb t1 W) from by
    have hc := iIsPoly v A1 n1 c1 xss W ((F.out.rd.below hW).mono hW.size) (by omega) (by omega)
    rwa [← HT1.out] at hc)
  have HC3 := fun (W : World) (hW : Below w8.heap.size w8 W) => Lib.hid (show Calls Tryz.prog 11 #[.agg #[.int .i64 v, .slice A1 n1 c1]] W (RetBb t1 W) from by
    have hc := sIsPoly v A1 n1 c1 xss W ((F.out.rd.below hW).mono hW.size) (by omega) (by omega)
    rwa [← HT1.out] at hc)
  have hnk1 : (k1 != k1) = false := by simp
  have hnt1 : (t1 != t1) = false := by simp
  have hnt2 : (!(t1 == t1)) = false := by simp
  have g1 := cell_regrown F.out.c0
  have g2 := cell_regrown F.out.c1
  have g3 := cell_regrown P.out.c0
  have g4 := cell_regrown P.out.c1
  have g5 := cell_regrown Q.out.c0
  have g6 := cell_regrown Q.out.c1
  refine wp_region_quiet_below (by kernel_rfl) (by kernel_rfl) ?_
  repeat (go_big_quiet_step ((first | (go_at_call 9; exact Calls.regrown_of ((HC1 _ (below_regrown _ _ _)).out)) | (go_at_call 10; exact Calls.regrown_of ((HC2 _ (below_regrown _ _ _)).out)) | (go_at_call 11; exact Calls.regrown_of ((HC3 _ (below_regrown _ _ _)).out)))))
  refine wpQuiet_nil ?_
  intro _ hw'
  obtain ⟨⟨dq, osq⟩, hw''⟩ := hw'
  subst hw''
  have hb := below_regrown w8 dq osq
  obtain ⟨w9, hwq⟩ : ∃ W, W = Sort.grow (redrawn w8 dq) osq := ⟨_, rfl⟩
  rw [← hwq] at hb ⊢
  clear hwq
  replace HB := Lib.hid (HB.out.ext hb)
  replace F := Lib.hid (F.out.ext hb)
  replace Y := Lib.hid (Y.out.ext hb)
  replace P := Lib.hid (P.out.ext hb)
  replace Q := Lib.hid (Q.out.ext hb)
  clear hb g1 g2 g3 g4 g5 g6 HC1 HC2 HC3 hnt1 hnt2 HT1
  clear Q
  have xF0 := F.out.c0
  have xF1 := F.out.c1
  have xFl := F.out.lt
  have xY0 := Y.out.c0
  have xY1 := Y.out.c1
  have xYl := Y.out.lt
  have xP0 := P.out.c0
  have xP1 := P.out.c1
  have xPl := P.out.lt
  go_upto_if 89 with fail
  clear xF0 xF1 xFl xY0 xY1 xYl xP0 xP1 xPl
  clear hnk1
  go_cut [2, 9, 10, 11, 12, 13, 14, 15, 16, 17, 18, 19, 20, 21, 22, 23, 24] from 88 to 171 (fun _ _ _ _ _ _ _ _ _ _ _ _ _ _ _ _ _ wc => Hid (Ext w9 wc))
  case first =>
    have HQ : Hid (From w9 w9) := Lib.hid ⟨Ext.refl _⟩
    by_cases hk1 : k1 = 0
    · skip
      have hk10 : (k1 == 0) = true := by simpa using hk1
      subst hk1
      have hm1 := mlp_zero (v := v) (u := u) (f := xss) (g := yss) (by rw [HO1.out])
      have htn := mlp_turn (v := v) (u := u) (f := xss) (g := yss) (by rw [HO1.out])
      obtain ⟨pf, pg, hvu, _, _, hme⟩ := hm1
      subst hvu
      rw [HO1.out] at hme htn
      obtain ⟨rfl, hps⟩ : u1 = v ∧ ps = oddL (prodsP xss yss) := by simpa using hme
      have HPF := Lib.hid pf
      have HPG := Lib.hid pg
      have HPS := Lib.hid hps
      have HTn := Lib.hid htn
      clear pf pg hps hme htn
      have xF0 := F.out.c0
      have xF1 := F.out.c1
      have xFl := F.out.lt
      have xY0 := Y.out.c0
      have xY1 := Y.out.c1
      have xYl := Y.out.lt
      have xP0 := P.out.c0
      have xP1 := P.out.c1
      have xPl := P.out.lt
      go_wp2_with fail
      clear xF0 xF1 xFl xY0 xY1 xYl xP0 xP1 xPl
      refine (show Calls Tryz.prog 7 #[.agg #[.int .i64 u1, .slice A2 n2 c2], .agg #[.int .i64 u1, .slice A1 n1 c1]] _ (RetNC u1 ps.length ps 0 _) from by have hc := iMultiplyPolys u1 u1 A2 A1 (n2) c2 (n1) c1 yss xss _ Y.out.rd F.out.rd (by omega) (by omega) (by omega) (by omega); rw [HTn.out] at hc; exact hc).mono ?_
      rintro e w10 ⟨A5, c5, rfl, ho, hb⟩
      replace HB := Lib.hid (HB.out.ext hb)
      replace F := Lib.hid (F.out.ext hb)
      replace Y := Lib.hid (Y.out.ext hb)
      replace P := Lib.hid (P.out.ext hb)
      replace HQ := Lib.hid (HQ.out.ext hb)
      have hrps := ho.own.rd
      clear ho hb
      have TU := Lib.hid (BoxP.new (v := u1) (hrps) 26 rfl)
      obtain ⟨w11, hw11⟩ : ∃ W, W = w10.alloc (.cells #[.int .i64 u1, .slice A5 ps.length c5] 26) := ⟨_, rfl⟩
      obtain ⟨q5, hq5⟩ : ∃ q, q = w10.heap.size := ⟨_, rfl⟩
      rw [← hw11, ← hq5] at TU
      have ew11 : Ext w10 w11 := by rw [hw11]; exact (Ext.refl _).alloc _
      have xF0 := F.out.c0
      have xF1 := F.out.c1
      have xFl := F.out.lt
      have xY0 := Y.out.c0
      have xY1 := Y.out.c1
      have xYl := Y.out.lt
      have xP0 := P.out.c0
      have xP1 := P.out.c1
      have xPl := P.out.lt
      replace HB := Lib.hid (HB.out.ext ew11)
      replace F := Lib.hid (F.out.ext ew11)
      replace Y := Lib.hid (Y.out.ext ew11)
      replace P := Lib.hid (P.out.ext ew11)
      replace HQ := Lib.hid (HQ.out.ext ew11)
      have Hw11 := Lib.hid hw11
      have Hq5 := Lib.hid hq5
      clear hw11 hq5 ew11
      go_wp2_with fail
      clear xF0 xF1 xFl xY0 xY1 xYl xP0 xP1 xPl
      rw [← Hw11.out, ← Hq5.out]
      clear hrps
      refine (poly5_any u1 u1 A5 A3 c5 c3 (ps.length) (ps.length) ps ps _ _ _ TU.out.rd P.out.rd (Nat.le_refl _) (Nat.le_refl _) (by omega) (by omega) (by omega) (by omega)).mono ?_
      rintro e w12 ⟨rfl, hb⟩
      replace HB := Lib.hid (HB.out.ext hb)
      replace F := Lib.hid (F.out.ext hb)
      replace Y := Lib.hid (Y.out.ext hb)
      replace P := Lib.hid (P.out.ext hb)
      replace HQ := Lib.hid (HQ.out.ext hb)
      replace TU := Lib.hid (TU.out.ext hb)
      clear hb
      rw [show decide (u1 = u1 ∧ ps = ps) = true from by simp]
      clear TU
      have xF0 := F.out.c0
      have xF1 := F.out.c1
      have xFl := F.out.lt
      have xY0 := Y.out.c0
      have xY1 := Y.out.c1
      have xYl := Y.out.lt
      have xP0 := P.out.c0
      have xP1 := P.out.c1
      have xPl := P.out.lt
      go_wp2_with fail
      clear xF0 xF1 xFl xY0 xY1 xYl xP0 xP1 xPl
      refine (show Calls Tryz.prog 12 #[.slice A n c, .int .u64 924] w12 (RetFm w12) from by have hc := roll_any A n c 924 w12 ((h.below HB.out.b).mono HB.out.b.size) hN (by decide); exact hc).mono ?_
      rintro e w13 ⟨rfl, hs1, hb1⟩
      have Hs1 := Lib.hid hs1
      have Hb1 := Lib.hid hb1
      clear hs1 hb1
      go_wp2_with fail
      refine (below_any _ 4 w13 Hs1.out (by omega)).mono ?_
      rintro e w14 ⟨r, rfl, hr0, hr1, hs2, hm2, hz2⟩
      have hb : Ext w12 w14 := Hb1.out.trans (hm2.below Hb1.out.size)
      obtain ⟨i, rfl⟩ : ∃ i : Nat, r = i := ⟨r.toNat, by omega⟩
      have hi3 : i ≤ 3 := by omega
      replace HB := Lib.hid (HB.out.ext hb)
      replace F := Lib.hid (F.out.ext hb)
      replace Y := Lib.hid (Y.out.ext hb)
      replace P := Lib.hid (P.out.ext hb)
      replace HQ := Lib.hid (HQ.out.ext hb)
      clear hb hs2 hm2 hz2 hr0 hr1 Hs1 Hb1
      have xF0 := F.out.c0
      have xF1 := F.out.c1
      have xFl := F.out.lt
      have xY0 := Y.out.c0
      have xY1 := Y.out.c1
      have xYl := Y.out.lt
      have xP0 := P.out.c0
      have xP1 := P.out.c1
      have xPl := P.out.lt
      go_wp2_with fail
      clear xF0 xF1 xFl xY0 xY1 xYl xP0 xP1 xPl
      obtain ⟨o, ho⟩ : ∃ o, o = squO u1 ps i := ⟨_, rfl⟩
      obtain ⟨v4, ls, k4⟩ := o
      have HO4 := Lib.hid ho.symm
      clear ho
      have hyls : ls.length ≤ 2000 ∧ totalL ls ≤ 8000 := by have hh := squO_b u1 ps i; rw [HO4.out] at hh; exact hh
      refine (show Calls Tryz.prog 14 #[.agg #[.int .i64 u1, .slice A3 ps.length c3], .int .i64 i] _ (RetNC v4 ls.length ls k4 _) from by have hc := iSquareOn u1 A3 (ps.length) c3 ps i _ P.out.rd (by omega) (by omega); rw [HO4.out] at hc; exact hc).mono ?_
      rintro e w15 ⟨A6, c6, rfl, ho, hb⟩
      replace HB := Lib.hid (HB.out.ext hb)
      replace F := Lib.hid (F.out.ext hb)
      replace Y := Lib.hid (Y.out.ext hb)
      replace P := Lib.hid (P.out.ext hb)
      replace HQ := Lib.hid (HQ.out.ext hb)
      have hrls := ho.own.rd
      clear ho hb
      have L := Lib.hid (BoxP.new (v := v4) (hrls) 26 rfl)
      obtain ⟨w16, hw16⟩ : ∃ W, W = w15.alloc (.cells #[.int .i64 v4, .slice A6 ls.length c6] 26) := ⟨_, rfl⟩
      obtain ⟨q6, hq6⟩ : ∃ q, q = w15.heap.size := ⟨_, rfl⟩
      rw [← hw16, ← hq6] at L
      have ew16 : Ext w15 w16 := by rw [hw16]; exact (Ext.refl _).alloc _
      have xF0 := F.out.c0
      have xF1 := F.out.c1
      have xFl := F.out.lt
      have xY0 := Y.out.c0
      have xY1 := Y.out.c1
      have xYl := Y.out.lt
      have xP0 := P.out.c0
      have xP1 := P.out.c1
      have xPl := P.out.lt
      replace HB := Lib.hid (HB.out.ext ew16)
      replace F := Lib.hid (F.out.ext ew16)
      replace Y := Lib.hid (Y.out.ext ew16)
      replace P := Lib.hid (P.out.ext ew16)
      replace HQ := Lib.hid (HQ.out.ext ew16)
      have Hw16 := Lib.hid hw16
      have Hq6 := Lib.hid hq6
      clear hw16 hq6 ew16
      go_wp2_with fail
      clear xF0 xF1 xFl xY0 xY1 xYl xP0 xP1 xPl
      rw [← Hw16.out, ← Hq6.out]
      clear hrls
      obtain ⟨w17, hw17⟩ : ∃ W, W = w16.alloc (.cells #[.int .i64 u1, .slice none 0 0] 26) := ⟨_, rfl⟩
      obtain ⟨q7, hq7⟩ : ∃ q, q = w16.heap.size := ⟨_, rfl⟩
      have HI := Lib.hid (show k4 = 0 → CarI w17 q7 u1 xss yss i 0 from fun _ => ⟨none, 0, 0, by rw [hw17]; exact Cells.nil.alloc2 _ _ _ hq7, RdL.nil, by simp [carS_zero], by simp [carS_zero, totalL]⟩)
      have HW7 := Lib.hid (show Below q7 w16 w17 by rw [hw17, hq7]; exact (Below.refl _ _).alloc (Nat.le_refl _) _)
      have HS7 := Lib.hid (show q7 < w17.heap.size by rw [hw17, hq7]; simp)
      have xF0 := F.out.c0
      have xF1 := F.out.c1
      have xFl := F.out.lt
      have xY0 := Y.out.c0
      have xY1 := Y.out.c1
      have xYl := Y.out.lt
      have xP0 := P.out.c0
      have xP1 := P.out.c1
      have xPl := P.out.lt
      have xL0 := L.out.c0
      have xL1 := L.out.c1
      have xLl := L.out.lt
      have Hw17 := Lib.hid hw17
      have Hq7 := Lib.hid hq7
      have Hq7b := Lib.hid (hq7.trans (show w16.heap.size = q6 + 1 by rw [Hw16.out, Hq6.out]; simp))
      clear hw17 hq7
      go_wp2_with fail
      clear xF0 xF1 xFl xY0 xY1 xYl xP0 xP1 xPl xL0 xL1 xLl
      rw [← Hw17.out, ← Hq7b.out]
      obtain ⟨b4, hb4⟩ : ∃ b : Bool, b = (k4 == 0) := ⟨_, rfl⟩
      rw [← hb4]
      have HB4 := Lib.hid hb4
      clear hb4
      go_loopw [15, 16] (fun ok j wr => ∃ (b : Bool) (t : Nat), t ≤ i + 1 ∧ ok = .bool b ∧ j = .int .i64 t ∧ Hid (Below q7 w16 wr) ∧ Hid (q7 < wr.heap.size) ∧ Hid (b = true → k4 = 0 ∧ CarI wr q7 u1 xss yss i t)) (fun _ j _ => i + 2 - (intOf j).toNat)
      case atStart => exact ⟨b4, 0, Nat.zero_le _, rfl, rfl, HW7, HS7, Lib.hid fun e => (have hk : k4 = 0 := by (have h1 := HB4.out.symm.trans e); simpa using h1
                                                                                    ⟨hk, HI.out hk⟩)⟩
      case round =>
        clear HW7 HS7 HI
        obtain ⟨b, t, ht, rfl, rfl, HW, HS, HI⟩ := hrel
        have hq7W : q7 ≤ w16.heap.size := Nat.le_of_eq Hq7.out
        have hbW : Ext w16 wr := by have hx := HW.out; rw [Hq7.out] at hx; exact hx
        have HbW := Lib.hid hbW
        replace HB := Lib.hid (HB.out.ext hbW)
        replace F := Lib.hid (F.out.ext hbW)
        replace Y := Lib.hid (Y.out.ext hbW)
        replace P := Lib.hid (P.out.ext hbW)
        replace HQ := Lib.hid (HQ.out.ext hbW)
        replace L := Lib.hid (L.out.ext hbW)
        clear hbW hq7W
        cases b
        · skip
          have h14 : True := trivial
          by_cases hti : (t : Int) ≤ (i : Int)
          · skip
            have xF0 := F.out.c0
            have xF1 := F.out.c1
            have xFl := F.out.lt
            have xY0 := Y.out.c0
            have xY1 := Y.out.c1
            have xYl := Y.out.lt
            have xP0 := P.out.c0
            have xP1 := P.out.c1
            have xPl := P.out.lt
            have xL0 := L.out.c0
            have xL1 := L.out.c1
            have xLl := L.out.lt
            go_wp2_with fail
            clear xF0 xF1 xFl xY0 xY1 xYl xP0 xP1 xPl xL0 xL1 xLl
            go_meet
            exact Lib.hid HQ.out.b
          · skip
            have xF0 := F.out.c0
            have xF1 := F.out.c1
            have xFl := F.out.lt
            have xY0 := Y.out.c0
            have xY1 := Y.out.c1
            have xYl := Y.out.lt
            have xP0 := P.out.c0
            have xP1 := P.out.c1
            have xPl := P.out.lt
            have xL0 := L.out.c0
            have xL1 := L.out.c1
            have xLl := L.out.lt
            go_wp2_with fail
            clear xF0 xF1 xFl xY0 xY1 xYl xP0 xP1 xPl xL0 xL1 xLl
            go_meet
            exact Lib.hid HQ.out.b
        · skip
          obtain ⟨hk4, At, nt, ct, HCt, Hrt, Hlt, Htt⟩ := HI.out rfl
          have HCt := Lib.hid HCt
          have Hrt := Lib.hid Hrt
          have S7 := Lib.hid (BoxP.mk HCt.out Hrt.out)
          obtain ⟨ts, hts⟩ : ∃ x, x = oddL (carS xss yss i t) := ⟨_, rfl⟩
          rw [← hts] at Hlt Htt S7
          have HTs := Lib.hid hts
          clear hts HCt Hrt HI
          have HK4 := Lib.hid hk4
          have hntl : nt ≤ 2000 := by rw [← S7.out.rd.len]; exact Hlt
          by_cases hti : t ≤ i
          · skip
            have HX : Hid (From wr wr) := Lib.hid ⟨Ext.refl _⟩
            have hti2 : (t : Int) ≤ (i : Int) := by omega
            have hwit : IntKind.i64.wrap ((i : Int) - (t : Int)) = (i : Int) - (t : Int) := by rw [IntKind.wrap_i64]; omega
            clear hk4
            have xF0 := F.out.c0
            have xF1 := F.out.c1
            have xFl := F.out.lt
            have xY0 := Y.out.c0
            have xY1 := Y.out.c1
            have xYl := Y.out.lt
            have xP0 := P.out.c0
            have xP1 := P.out.c1
            have xPl := P.out.lt
            have xL0 := L.out.c0
            have xL1 := L.out.c1
            have xLl := L.out.lt
            have xS70 := S7.out.c0
            have xS71 := S7.out.c1
            have xS7l := S7.out.lt
            go_wp2_with fail
            clear xF0 xF1 xFl xY0 xY1 xYl xP0 xP1 xPl xL0 xL1 xLl xS70 xS71 xS7l
            obtain ⟨o, ho⟩ : ∃ o, o = squO u1 xss t := ⟨_, rfl⟩
            obtain ⟨v5, p5, k5⟩ := o
            have HO5 := Lib.hid ho.symm
            clear ho
            have hyp5 : p5.length ≤ 2000 ∧ totalL p5 ≤ 8000 := by have hh := squO_b u1 xss t; rw [HO5.out] at hh; exact hh
            refine (show Calls Tryz.prog 14 #[.agg #[.int .i64 u1, .slice A1 n1 c1], .int .i64 t] _ (RetNC v5 p5.length p5 k5 _) from by have hc := iSquareOn u1 A1 (n1) c1 xss t _ F.out.rd (by omega) (by omega); rw [HO5.out] at hc; exact hc).mono ?_
            rintro e w18 ⟨A8, c8, rfl, ho, hb⟩
            replace HB := Lib.hid (HB.out.ext hb)
            replace F := Lib.hid (F.out.ext hb)
            replace Y := Lib.hid (Y.out.ext hb)
            replace P := Lib.hid (P.out.ext hb)
            replace HQ := Lib.hid (HQ.out.ext hb)
            replace L := Lib.hid (L.out.ext hb)
            replace S7 := Lib.hid (S7.out.ext hb)
            replace HX := Lib.hid (HX.out.ext hb)
            have hrp5 := ho.own.rd
            clear ho hb
            have X5 := Lib.hid (BoxP.new (v := v5) (hrp5) 26 rfl)
            obtain ⟨w19, hw19⟩ : ∃ W, W = w18.alloc (.cells #[.int .i64 v5, .slice A8 p5.length c8] 26) := ⟨_, rfl⟩
            obtain ⟨q8, hq8⟩ : ∃ q, q = w18.heap.size := ⟨_, rfl⟩
            rw [← hw19, ← hq8] at X5
            have ew19 : Ext w18 w19 := by rw [hw19]; exact (Ext.refl _).alloc _
            have xF0 := F.out.c0
            have xF1 := F.out.c1
            have xFl := F.out.lt
            have xY0 := Y.out.c0
            have xY1 := Y.out.c1
            have xYl := Y.out.lt
            have xP0 := P.out.c0
            have xP1 := P.out.c1
            have xPl := P.out.lt
            have xL0 := L.out.c0
            have xL1 := L.out.c1
            have xLl := L.out.lt
            have xS70 := S7.out.c0
            have xS71 := S7.out.c1
            have xS7l := S7.out.lt
            replace HB := Lib.hid (HB.out.ext ew19)
            replace F := Lib.hid (F.out.ext ew19)
            replace Y := Lib.hid (Y.out.ext ew19)
            replace P := Lib.hid (P.out.ext ew19)
            replace HQ := Lib.hid (HQ.out.ext ew19)
            replace L := Lib.hid (L.out.ext ew19)
            replace S7 := Lib.hid (S7.out.ext ew19)
            replace HX := Lib.hid (HX.out.ext ew19)
            have Hw19 := Lib.hid hw19
            have Hq8 := Lib.hid hq8
            clear hw19 hq8 ew19
            go_wp2_with fail
            clear xF0 xF1 xFl xY0 xY1 xYl xP0 xP1 xPl xL0 xL1 xLl xS70 xS71 xS7l
            rw [← Hw19.out, ← Hq8.out]
            clear hrp5
            obtain ⟨o, ho⟩ : ∃ o, o = squO u1 yss ((i : Int) - t) := ⟨_, rfl⟩
            obtain ⟨v6, p6, k6⟩ := o
            have HO6 := Lib.hid ho.symm
            clear ho
            have hyp6 : p6.length ≤ 2000 ∧ totalL p6 ≤ 8000 := by have hh := squO_b u1 yss ((i : Int) - t); rw [HO6.out] at hh; exact hh
            by_cases hk5 : k5 = 0
            · skip
              subst hk5
              by_cases hk6 : k6 = 0
              · skip
                subst hk6
                refine (show Calls Tryz.prog 14 #[.agg #[.int .i64 u1, .slice A2 n2 c2], .int .i64 ((i : Int) - t)] _ (RetNC v6 p6.length p6 0 _) from by have hc := iSquareOn u1 A2 (n2) c2 yss ((i : Int) - t) _ Y.out.rd (by omega) (by omega); rw [HO6.out] at hc; exact hc).mono ?_
                rintro e w20 ⟨A9, c9, rfl, ho, hb⟩
                replace HB := Lib.hid (HB.out.ext hb)
                replace F := Lib.hid (F.out.ext hb)
                replace Y := Lib.hid (Y.out.ext hb)
                replace P := Lib.hid (P.out.ext hb)
                replace HQ := Lib.hid (HQ.out.ext hb)
                replace L := Lib.hid (L.out.ext hb)
                replace S7 := Lib.hid (S7.out.ext hb)
                replace HX := Lib.hid (HX.out.ext hb)
                replace X5 := Lib.hid (X5.out.ext hb)
                have hrp6 := ho.own.rd
                clear ho hb
                have X6 := Lib.hid (BoxP.new (v := v6) (hrp6) 26 rfl)
                obtain ⟨w21, hw21⟩ : ∃ W, W = w20.alloc (.cells #[.int .i64 v6, .slice A9 p6.length c9] 26) := ⟨_, rfl⟩
                obtain ⟨q9, hq9⟩ : ∃ q, q = w20.heap.size := ⟨_, rfl⟩
                rw [← hw21, ← hq9] at X6
                have ew21 : Ext w20 w21 := by rw [hw21]; exact (Ext.refl _).alloc _
                have xF0 := F.out.c0
                have xF1 := F.out.c1
                have xFl := F.out.lt
                have xY0 := Y.out.c0
                have xY1 := Y.out.c1
                have xYl := Y.out.lt
                have xP0 := P.out.c0
                have xP1 := P.out.c1
                have xPl := P.out.lt
                have xL0 := L.out.c0
                have xL1 := L.out.c1
                have xLl := L.out.lt
                have xS70 := S7.out.c0
                have xS71 := S7.out.c1
                have xS7l := S7.out.lt
                have xX50 := X5.out.c0
                have xX51 := X5.out.c1
                have xX5l := X5.out.lt
                replace HB := Lib.hid (HB.out.ext ew21)
                replace F := Lib.hid (F.out.ext ew21)
                replace Y := Lib.hid (Y.out.ext ew21)
                replace P := Lib.hid (P.out.ext ew21)
                replace HQ := Lib.hid (HQ.out.ext ew21)
                replace L := Lib.hid (L.out.ext ew21)
                replace S7 := Lib.hid (S7.out.ext ew21)
                replace HX := Lib.hid (HX.out.ext ew21)
                replace X5 := Lib.hid (X5.out.ext ew21)
                have Hw21 := Lib.hid hw21
                have Hq9 := Lib.hid hq9
                clear hw21 hq9 ew21
                go_wp2_with fail
                clear xF0 xF1 xFl xY0 xY1 xYl xP0 xP1 xPl xL0 xL1 xLl xS70 xS71 xS7l xX50 xX51 xX5l
                rw [← Hw21.out, ← Hq9.out]
                clear hrp6
                obtain ⟨o, ho⟩ : ∃ o, o = mlpO v5 p5 v6 p6 := ⟨_, rfl⟩
                obtain ⟨v7, p7, k7⟩ := o
                have HO7 := Lib.hid ho.symm
                clear ho
                have hyp7 : p7.length ≤ 2000 ∧ totalL p7 ≤ 8000 := by have hh := mlpO_b v5 p5 v6 p6; rw [HO7.out] at hh; exact hh
                refine (show Calls Tryz.prog 7 #[.agg #[.int .i64 v5, .slice A8 p5.length c8], .agg #[.int .i64 v6, .slice A9 p6.length c9]] _ (RetNC v7 p7.length p7 k7 _) from by have hc := iMultiplyPolys v5 v6 A8 A9 (p5.length) c8 (p6.length) c9 p5 p6 _ X5.out.rd X6.out.rd (by omega) (by omega) (by omega) (by omega); rw [HO7.out] at hc; exact hc).mono ?_
                rintro e w22 ⟨A10, c10, rfl, ho, hb⟩
                replace HB := Lib.hid (HB.out.ext hb)
                replace F := Lib.hid (F.out.ext hb)
                replace Y := Lib.hid (Y.out.ext hb)
                replace P := Lib.hid (P.out.ext hb)
                replace HQ := Lib.hid (HQ.out.ext hb)
                replace L := Lib.hid (L.out.ext hb)
                replace S7 := Lib.hid (S7.out.ext hb)
                replace HX := Lib.hid (HX.out.ext hb)
                replace X5 := Lib.hid (X5.out.ext hb)
                replace X6 := Lib.hid (X6.out.ext hb)
                have hrp7 := ho.own.rd
                clear ho hb
                have X7 := Lib.hid (BoxP.new (v := v7) (hrp7) 26 rfl)
                obtain ⟨w23, hw23⟩ : ∃ W, W = w22.alloc (.cells #[.int .i64 v7, .slice A10 p7.length c10] 26) := ⟨_, rfl⟩
                obtain ⟨q10, hq10⟩ : ∃ q, q = w22.heap.size := ⟨_, rfl⟩
                rw [← hw23, ← hq10] at X7
                have ew23 : Ext w22 w23 := by rw [hw23]; exact (Ext.refl _).alloc _
                have xF0 := F.out.c0
                have xF1 := F.out.c1
                have xFl := F.out.lt
                have xY0 := Y.out.c0
                have xY1 := Y.out.c1
                have xYl := Y.out.lt
                have xP0 := P.out.c0
                have xP1 := P.out.c1
                have xPl := P.out.lt
                have xL0 := L.out.c0
                have xL1 := L.out.c1
                have xLl := L.out.lt
                have xS70 := S7.out.c0
                have xS71 := S7.out.c1
                have xS7l := S7.out.lt
                have xX50 := X5.out.c0
                have xX51 := X5.out.c1
                have xX5l := X5.out.lt
                have xX60 := X6.out.c0
                have xX61 := X6.out.c1
                have xX6l := X6.out.lt
                replace HB := Lib.hid (HB.out.ext ew23)
                replace F := Lib.hid (F.out.ext ew23)
                replace Y := Lib.hid (Y.out.ext ew23)
                replace P := Lib.hid (P.out.ext ew23)
                replace HQ := Lib.hid (HQ.out.ext ew23)
                replace L := Lib.hid (L.out.ext ew23)
                replace S7 := Lib.hid (S7.out.ext ew23)
                replace HX := Lib.hid (HX.out.ext ew23)
                replace X5 := Lib.hid (X5.out.ext ew23)
                replace X6 := Lib.hid (X6.out.ext ew23)
                have Hw23 := Lib.hid hw23
                have Hq10 := Lib.hid hq10
                clear hw23 hq10 ew23
                go_wp2_with fail
                clear xF0 xF1 xFl xY0 xY1 xYl xP0 xP1 xPl xL0 xL1 xLl xS70 xS71 xS7l xX50 xX51 xX5l xX60 xX61 xX6l
                rw [← Hw23.out, ← Hq10.out]
                clear hrp7
                clear X5 X6
                obtain ⟨o, ho⟩ : ∃ o, o = adpO u1 ts v7 p7 := ⟨_, rfl⟩
                obtain ⟨v8, p8, k8⟩ := o
                have HO8 := Lib.hid ho.symm
                clear ho
                have hyp8 : p8.length ≤ 2000 ∧ totalL p8 ≤ 8000 := by have hh := adpO_b u1 ts v7 p7; rw [HO8.out] at hh; exact hh
                by_cases hk7 : k7 = 0
                · skip
                  subst hk7
                  by_cases hk8 : k8 = 0
                  · skip
                    subst hk8
                    have hq7c : q7 + 1 ≤ w23.heap.size := Nat.le_trans (Nat.succ_le_of_lt HS.out) HX.out.b.size
                    refine (show Calls Tryz.prog 15 #[.agg #[.int .i64 u1, .slice At nt ct], .agg #[.int .i64 v7, .slice A10 p7.length c10]] _ (RetNC v8 p8.length p8 0 _) from by have hc := iAddPolys u1 v7 At A10 (nt) ct (p7.length) c10 ts p7 _ S7.out.rd X7.out.rd (by omega) (by omega) (by omega) (by omega); rw [HO8.out] at hc; exact hc).mono ?_
                    rintro e w24 ⟨A11, c11, rfl, ho, hb⟩
                    replace HB := Lib.hid (HB.out.ext hb)
                    replace F := Lib.hid (F.out.ext hb)
                    replace Y := Lib.hid (Y.out.ext hb)
                    replace P := Lib.hid (P.out.ext hb)
                    replace HQ := Lib.hid (HQ.out.ext hb)
                    replace L := Lib.hid (L.out.ext hb)
                    replace S7 := Lib.hid (S7.out.ext hb)
                    replace HX := Lib.hid (HX.out.ext hb)
                    replace X7 := Lib.hid (X7.out.ext hb)
                    have O8 := Lib.hid (OwnI.mk (ho.mono hq7c (Nat.le_refl _)))
                    have hrp8 := ho.own.rd
                    clear ho hb hq7c
                    have X8 := Lib.hid (BoxP.new (v := v8) (hrp8) 26 rfl)
                    obtain ⟨w25, hw25⟩ : ∃ W, W = w24.alloc (.cells #[.int .i64 v8, .slice A11 p8.length c11] 26) := ⟨_, rfl⟩
                    obtain ⟨q11, hq11⟩ : ∃ q, q = w24.heap.size := ⟨_, rfl⟩
                    rw [← hw25, ← hq11] at X8
                    have ew25 : Ext w24 w25 := by rw [hw25]; exact (Ext.refl _).alloc _
                    have xF0 := F.out.c0
                    have xF1 := F.out.c1
                    have xFl := F.out.lt
                    have xY0 := Y.out.c0
                    have xY1 := Y.out.c1
                    have xYl := Y.out.lt
                    have xP0 := P.out.c0
                    have xP1 := P.out.c1
                    have xPl := P.out.lt
                    have xL0 := L.out.c0
                    have xL1 := L.out.c1
                    have xLl := L.out.lt
                    have xS70 := S7.out.c0
                    have xS71 := S7.out.c1
                    have xS7l := S7.out.lt
                    have xX70 := X7.out.c0
                    have xX71 := X7.out.c1
                    have xX7l := X7.out.lt
                    replace HB := Lib.hid (HB.out.ext ew25)
                    replace F := Lib.hid (F.out.ext ew25)
                    replace Y := Lib.hid (Y.out.ext ew25)
                    replace P := Lib.hid (P.out.ext ew25)
                    replace HQ := Lib.hid (HQ.out.ext ew25)
                    replace L := Lib.hid (L.out.ext ew25)
                    replace S7 := Lib.hid (S7.out.ext ew25)
                    replace HX := Lib.hid (HX.out.ext ew25)
                    replace X7 := Lib.hid (X7.out.ext ew25)
                    replace O8 := Lib.hid (O8.out.ext ew25)
                    have Hw25 := Lib.hid hw25
                    have Hq11 := Lib.hid hq11
                    clear hw25 hq11 ew25
                    go_upto_region 24 with fail
                    clear xF0 xF1 xFl xY0 xY1 xYl xP0 xP1 xPl xL0 xL1 xLl xS70 xS71 xS7l xX70 xX71 xX7l
                    rw [← Hw25.out, ← Hq11.out]
                    clear hrp8
                    have hnx := car_next (v := u1) (f := xss) (g := yss) (i := i) (j := t) (by rw [HO5.out]) (by rw [HO6.out]) (by rw [HO5.out, HO6.out]; show (mlpO v5 p5 v6 p6).2.2 = 0; rw [HO7.out]) (by rw [HO5.out, HO6.out, ← HTs.out]; show (adpO u1 ts (mlpO v5 p5 v6 p6).1 (mlpO v5 p5 v6 p6).2.1).2.2 = 0; rw [HO7.out]; show (adpO u1 ts v7 p7).2.2 = 0; rw [HO8.out])
                    rw [HO5.out, HO6.out, ← HTs.out] at hnx
                    have hnx2 : adpO u1 ts (mlpO v5 p5 v6 p6).1 (mlpO v5 p5 v6 p6).2.1 = (u1, oddL (carS xss yss i (t + 1)), 0) := hnx
                    rw [HO7.out] at hnx2
                    have hnx3 : adpO u1 ts v7 p7 = (u1, oddL (carS xss yss i (t + 1)), 0) := hnx2
                    rw [HO8.out] at hnx3
                    obtain ⟨rfl, hp8⟩ : v8 = u1 ∧ p8 = oddL (carS xss yss i (t + 1)) := by simpa using hnx3
                    have HP8 := Lib.hid hp8
                    clear hnx hnx2 hnx3 hp8
                    have xf0 := S7.out.cs.fr (b := q7) (o := 0) (V := .int .i64 v8) (by simp)
                    have xf1 := S7.out.cs.fr (b := q7) (o := 1) (V := .slice At nt ct) (by simp)
                    have HBs := Lib.hid (show Below q7 w25 ((w25.setCell ⟨q7, 0, none⟩ (.int .i64 v8)).setCell ⟨q7, 1, none⟩ (.slice A11 p8.length c11)) from ((Below.refl q7 w25).setCell (p := ⟨q7, 0, none⟩) (Nat.le_refl _) _).setCell (p := ⟨q7, 1, none⟩) (Nat.le_refl _) _)
                    have HCs := Lib.hid (show Cells [(q7, 0, .int .i64 v8), (q7, 1, .slice A11 p8.length c11)] ((w25.setCell ⟨q7, 0, none⟩ (.int .i64 v8)).setCell ⟨q7, 1, none⟩ (.slice A11 p8.length c11)) from (((S7.out.cs.set (by simp) (.int .i64 v8)).sub (M := [(q7, 1, .slice At nt ct), (q7, 0, .int .i64 v8)]) (by simp)).set (by simp) (.slice A11 p8.length c11)).sub (by simp))
                    have HMs := Lib.hid (show Mid q7 (q7 + 1) w25 ((w25.setCell ⟨q7, 0, none⟩ (.int .i64 v8)).setCell ⟨q7, 1, none⟩ (.slice A11 p8.length c11)) from (mid_setCell (p := ⟨q7, 0, none⟩) (.int .i64 v8) ⟨Nat.le_refl _, Nat.lt_succ_self _⟩).trans (mid_setCell (B := q7) (K := q7 + 1) (p := ⟨q7, 1, none⟩) (.slice A11 p8.length c11) ⟨Nat.le_refl _, Nat.lt_succ_self _⟩))
                    have HRs := Lib.hid ((((O8.out.o.mid HMs.out (Nat.le_refl _)).own).mono (Nat.le_refl _) HMs.out.size).rd)
                    have hsz : q7 < w25.heap.size := Nat.lt_of_lt_of_le HS.out HX.out.b.size
                    have xF0 := F.out.c0
                    have xF1 := F.out.c1
                    have xFl := F.out.lt
                    have xY0 := Y.out.c0
                    have xY1 := Y.out.c1
                    have xYl := Y.out.lt
                    have xP0 := P.out.c0
                    have xP1 := P.out.c1
                    have xPl := P.out.lt
                    have xL0 := L.out.c0
                    have xL1 := L.out.c1
                    have xLl := L.out.lt
                    have xS70 := S7.out.c0
                    have xS71 := S7.out.c1
                    have xS7l := S7.out.lt
                    have xX70 := X7.out.c0
                    have xX71 := X7.out.c1
                    have xX7l := X7.out.lt
                    have xX80 := X8.out.c0
                    have xX81 := X8.out.c1
                    have xX8l := X8.out.lt
                    go_wp2_with fail
                    clear xF0 xF1 xFl xY0 xY1 xYl xP0 xP1 xPl xL0 xL1 xLl xS70 xS71 xS7l xX70 xX71 xX7l xX80 xX81 xX8l
                    go_roundw
                    case rel => exact ⟨true, t + 1, by omega, rfl, by go_num, Lib.hid ((HW.out.trans (HX.out.b.mono (Nat.le_of_lt HS.out))).trans HBs.out), Lib.hid (Nat.lt_of_lt_of_le hsz HMs.out.size), Lib.hid fun _ => ⟨HK4.out, A11, p8.length, c11, HCs.out, by rw [← HP8.out]; exact HRs.out, by rw [← HP8.out]; exact hyp8.1, by rw [← HP8.out]; exact hyp8.2⟩⟩
                    case measure => simp [intOf]; omega
                  · skip
                    have ek8 : (k8 != 0) = true := by simpa using hk8
                    have ek82 : (k8 == 0) = false := by simpa using hk8
                    clear hk8
                    have hq7c : q7 + 1 ≤ w23.heap.size := Nat.le_trans (Nat.succ_le_of_lt HS.out) HX.out.b.size
                    refine (show Calls Tryz.prog 15 #[.agg #[.int .i64 u1, .slice At nt ct], .agg #[.int .i64 v7, .slice A10 p7.length c10]] _ (RetNC v8 p8.length p8 k8 _) from by have hc := iAddPolys u1 v7 At A10 (nt) ct (p7.length) c10 ts p7 _ S7.out.rd X7.out.rd (by omega) (by omega) (by omega) (by omega); rw [HO8.out] at hc; exact hc).mono ?_
                    rintro e w24 ⟨A11, c11, rfl, ho, hb⟩
                    replace HB := Lib.hid (HB.out.ext hb)
                    replace F := Lib.hid (F.out.ext hb)
                    replace Y := Lib.hid (Y.out.ext hb)
                    replace P := Lib.hid (P.out.ext hb)
                    replace HQ := Lib.hid (HQ.out.ext hb)
                    replace L := Lib.hid (L.out.ext hb)
                    replace S7 := Lib.hid (S7.out.ext hb)
                    replace HX := Lib.hid (HX.out.ext hb)
                    replace X7 := Lib.hid (X7.out.ext hb)
                    have O8 := Lib.hid (OwnI.mk (ho.mono hq7c (Nat.le_refl _)))
                    have hrp8 := ho.own.rd
                    clear ho hb hq7c
                    have X8 := Lib.hid (BoxP.new (v := v8) (hrp8) 26 rfl)
                    obtain ⟨w25, hw25⟩ : ∃ W, W = w24.alloc (.cells #[.int .i64 v8, .slice A11 p8.length c11] 26) := ⟨_, rfl⟩
                    obtain ⟨q11, hq11⟩ : ∃ q, q = w24.heap.size := ⟨_, rfl⟩
                    rw [← hw25, ← hq11] at X8
                    have ew25 : Ext w24 w25 := by rw [hw25]; exact (Ext.refl _).alloc _
                    have xF0 := F.out.c0
                    have xF1 := F.out.c1
                    have xFl := F.out.lt
                    have xY0 := Y.out.c0
                    have xY1 := Y.out.c1
                    have xYl := Y.out.lt
                    have xP0 := P.out.c0
                    have xP1 := P.out.c1
                    have xPl := P.out.lt
                    have xL0 := L.out.c0
                    have xL1 := L.out.c1
                    have xLl := L.out.lt
                    have xS70 := S7.out.c0
                    have xS71 := S7.out.c1
                    have xS7l := S7.out.lt
                    have xX70 := X7.out.c0
                    have xX71 := X7.out.c1
                    have xX7l := X7.out.lt
                    replace HB := Lib.hid (HB.out.ext ew25)
                    replace F := Lib.hid (F.out.ext ew25)
                    replace Y := Lib.hid (Y.out.ext ew25)
                    replace P := Lib.hid (P.out.ext ew25)
                    replace HQ := Lib.hid (HQ.out.ext ew25)
                    replace L := Lib.hid (L.out.ext ew25)
                    replace S7 := Lib.hid (S7.out.ext ew25)
                    replace HX := Lib.hid (HX.out.ext ew25)
                    replace X7 := Lib.hid (X7.out.ext ew25)
                    replace O8 := Lib.hid (O8.out.ext ew25)
                    have Hw25 := Lib.hid hw25
                    have Hq11 := Lib.hid hq11
                    clear hw25 hq11 ew25
                    go_wp2_with fail
                    clear xF0 xF1 xFl xY0 xY1 xYl xP0 xP1 xPl xL0 xL1 xLl xS70 xS71 xS7l xX70 xX71 xX7l
                    rw [← Hw25.out]
                    clear hrp8
                    go_roundw
                    case rel => exact ⟨false, t + 1, by omega, rfl, by go_num, Lib.hid (HW.out.trans (HX.out.b.mono (Nat.le_of_lt HS.out))), Lib.hid (Nat.lt_of_lt_of_le HS.out HX.out.b.size), Lib.hid fun e => by cases e⟩
                    case measure => simp [intOf]; omega
                · skip
                  have ek7 : (k7 != 0) = true := by simpa using hk7
                  have ek72 : (k7 == 0) = false := by simpa using hk7
                  clear hk7
                  have hq7c : q7 + 1 ≤ w23.heap.size := Nat.le_trans (Nat.succ_le_of_lt HS.out) HX.out.b.size
                  refine (show Calls Tryz.prog 15 #[.agg #[.int .i64 u1, .slice At nt ct], .agg #[.int .i64 v7, .slice A10 p7.length c10]] _ (RetNC v8 p8.length p8 k8 _) from by have hc := iAddPolys u1 v7 At A10 (nt) ct (p7.length) c10 ts p7 _ S7.out.rd X7.out.rd (by omega) (by omega) (by omega) (by omega); rw [HO8.out] at hc; exact hc).mono ?_
                  rintro e w24 ⟨A11, c11, rfl, ho, hb⟩
                  replace HB := Lib.hid (HB.out.ext hb)
                  replace F := Lib.hid (F.out.ext hb)
                  replace Y := Lib.hid (Y.out.ext hb)
                  replace P := Lib.hid (P.out.ext hb)
                  replace HQ := Lib.hid (HQ.out.ext hb)
                  replace L := Lib.hid (L.out.ext hb)
                  replace S7 := Lib.hid (S7.out.ext hb)
                  replace HX := Lib.hid (HX.out.ext hb)
                  replace X7 := Lib.hid (X7.out.ext hb)
                  have O8 := Lib.hid (OwnI.mk (ho.mono hq7c (Nat.le_refl _)))
                  have hrp8 := ho.own.rd
                  clear ho hb hq7c
                  have X8 := Lib.hid (BoxP.new (v := v8) (hrp8) 26 rfl)
                  obtain ⟨w25, hw25⟩ : ∃ W, W = w24.alloc (.cells #[.int .i64 v8, .slice A11 p8.length c11] 26) := ⟨_, rfl⟩
                  obtain ⟨q11, hq11⟩ : ∃ q, q = w24.heap.size := ⟨_, rfl⟩
                  rw [← hw25, ← hq11] at X8
                  have ew25 : Ext w24 w25 := by rw [hw25]; exact (Ext.refl _).alloc _
                  have xF0 := F.out.c0
                  have xF1 := F.out.c1
                  have xFl := F.out.lt
                  have xY0 := Y.out.c0
                  have xY1 := Y.out.c1
                  have xYl := Y.out.lt
                  have xP0 := P.out.c0
                  have xP1 := P.out.c1
                  have xPl := P.out.lt
                  have xL0 := L.out.c0
                  have xL1 := L.out.c1
                  have xLl := L.out.lt
                  have xS70 := S7.out.c0
                  have xS71 := S7.out.c1
                  have xS7l := S7.out.lt
                  have xX70 := X7.out.c0
                  have xX71 := X7.out.c1
                  have xX7l := X7.out.lt
                  replace HB := Lib.hid (HB.out.ext ew25)
                  replace F := Lib.hid (F.out.ext ew25)
                  replace Y := Lib.hid (Y.out.ext ew25)
                  replace P := Lib.hid (P.out.ext ew25)
                  replace HQ := Lib.hid (HQ.out.ext ew25)
                  replace L := Lib.hid (L.out.ext ew25)
                  replace S7 := Lib.hid (S7.out.ext ew25)
                  replace HX := Lib.hid (HX.out.ext ew25)
                  replace X7 := Lib.hid (X7.out.ext ew25)
                  replace O8 := Lib.hid (O8.out.ext ew25)
                  have Hw25 := Lib.hid hw25
                  have Hq11 := Lib.hid hq11
                  clear hw25 hq11 ew25
                  go_wp2_with fail
                  clear xF0 xF1 xFl xY0 xY1 xYl xP0 xP1 xPl xL0 xL1 xLl xS70 xS71 xS7l xX70 xX71 xX7l
                  rw [← Hw25.out]
                  clear hrp8
                  go_roundw
                  case rel => exact ⟨false, t + 1, by omega, rfl, by go_num, Lib.hid (HW.out.trans (HX.out.b.mono (Nat.le_of_lt HS.out))), Lib.hid (Nat.lt_of_lt_of_le HS.out HX.out.b.size), Lib.hid fun e => by cases e⟩
                  case measure => simp [intOf]; omega
              · skip
                have ek6 : (k6 != 0) = true := by simpa using hk6
                have ek62 : (k6 == 0) = false := by simpa using hk6
                clear hk6
                refine (show Calls Tryz.prog 14 #[.agg #[.int .i64 u1, .slice A2 n2 c2], .int .i64 ((i : Int) - t)] _ (RetNC v6 p6.length p6 k6 _) from by have hc := iSquareOn u1 A2 (n2) c2 yss ((i : Int) - t) _ Y.out.rd (by omega) (by omega); rw [HO6.out] at hc; exact hc).mono ?_
                rintro e w20 ⟨A9, c9, rfl, ho, hb⟩
                replace HB := Lib.hid (HB.out.ext hb)
                replace F := Lib.hid (F.out.ext hb)
                replace Y := Lib.hid (Y.out.ext hb)
                replace P := Lib.hid (P.out.ext hb)
                replace HQ := Lib.hid (HQ.out.ext hb)
                replace L := Lib.hid (L.out.ext hb)
                replace S7 := Lib.hid (S7.out.ext hb)
                replace HX := Lib.hid (HX.out.ext hb)
                replace X5 := Lib.hid (X5.out.ext hb)
                have hrp6 := ho.own.rd
                clear ho hb
                have X6 := Lib.hid (BoxP.new (v := v6) (hrp6) 26 rfl)
                obtain ⟨w21, hw21⟩ : ∃ W, W = w20.alloc (.cells #[.int .i64 v6, .slice A9 p6.length c9] 26) := ⟨_, rfl⟩
                obtain ⟨q9, hq9⟩ : ∃ q, q = w20.heap.size := ⟨_, rfl⟩
                rw [← hw21, ← hq9] at X6
                have ew21 : Ext w20 w21 := by rw [hw21]; exact (Ext.refl _).alloc _
                have xF0 := F.out.c0
                have xF1 := F.out.c1
                have xFl := F.out.lt
                have xY0 := Y.out.c0
                have xY1 := Y.out.c1
                have xYl := Y.out.lt
                have xP0 := P.out.c0
                have xP1 := P.out.c1
                have xPl := P.out.lt
                have xL0 := L.out.c0
                have xL1 := L.out.c1
                have xLl := L.out.lt
                have xS70 := S7.out.c0
                have xS71 := S7.out.c1
                have xS7l := S7.out.lt
                have xX50 := X5.out.c0
                have xX51 := X5.out.c1
                have xX5l := X5.out.lt
                replace HB := Lib.hid (HB.out.ext ew21)
                replace F := Lib.hid (F.out.ext ew21)
                replace Y := Lib.hid (Y.out.ext ew21)
                replace P := Lib.hid (P.out.ext ew21)
                replace HQ := Lib.hid (HQ.out.ext ew21)
                replace L := Lib.hid (L.out.ext ew21)
                replace S7 := Lib.hid (S7.out.ext ew21)
                replace HX := Lib.hid (HX.out.ext ew21)
                replace X5 := Lib.hid (X5.out.ext ew21)
                have Hw21 := Lib.hid hw21
                have Hq9 := Lib.hid hq9
                clear hw21 hq9 ew21
                go_wp2_with fail
                clear xF0 xF1 xFl xY0 xY1 xYl xP0 xP1 xPl xL0 xL1 xLl xS70 xS71 xS7l xX50 xX51 xX5l
                rw [← Hw21.out]
                clear hrp6
                go_roundw
                case rel => exact ⟨false, t + 1, by omega, rfl, by go_num, Lib.hid (HW.out.trans (HX.out.b.mono (Nat.le_of_lt HS.out))), Lib.hid (Nat.lt_of_lt_of_le HS.out HX.out.b.size), Lib.hid fun e => by cases e⟩
                case measure => simp [intOf]; omega
            · skip
              have ek5 : (k5 != 0) = true := by simpa using hk5
              have ek52 : (k5 == 0) = false := by simpa using hk5
              clear hk5
              refine (show Calls Tryz.prog 14 #[.agg #[.int .i64 u1, .slice A2 n2 c2], .int .i64 ((i : Int) - t)] _ (RetNC v6 p6.length p6 k6 _) from by have hc := iSquareOn u1 A2 (n2) c2 yss ((i : Int) - t) _ Y.out.rd (by omega) (by omega); rw [HO6.out] at hc; exact hc).mono ?_
              rintro e w20 ⟨A9, c9, rfl, ho, hb⟩
              replace HB := Lib.hid (HB.out.ext hb)
              replace F := Lib.hid (F.out.ext hb)
              replace Y := Lib.hid (Y.out.ext hb)
              replace P := Lib.hid (P.out.ext hb)
              replace HQ := Lib.hid (HQ.out.ext hb)
              replace L := Lib.hid (L.out.ext hb)
              replace S7 := Lib.hid (S7.out.ext hb)
              replace HX := Lib.hid (HX.out.ext hb)
              replace X5 := Lib.hid (X5.out.ext hb)
              have hrp6 := ho.own.rd
              clear ho hb
              have X6 := Lib.hid (BoxP.new (v := v6) (hrp6) 26 rfl)
              obtain ⟨w21, hw21⟩ : ∃ W, W = w20.alloc (.cells #[.int .i64 v6, .slice A9 p6.length c9] 26) := ⟨_, rfl⟩
              obtain ⟨q9, hq9⟩ : ∃ q, q = w20.heap.size := ⟨_, rfl⟩
              rw [← hw21, ← hq9] at X6
              have ew21 : Ext w20 w21 := by rw [hw21]; exact (Ext.refl _).alloc _
              have xF0 := F.out.c0
              have xF1 := F.out.c1
              have xFl := F.out.lt
              have xY0 := Y.out.c0
              have xY1 := Y.out.c1
              have xYl := Y.out.lt
              have xP0 := P.out.c0
              have xP1 := P.out.c1
              have xPl := P.out.lt
              have xL0 := L.out.c0
              have xL1 := L.out.c1
              have xLl := L.out.lt
              have xS70 := S7.out.c0
              have xS71 := S7.out.c1
              have xS7l := S7.out.lt
              have xX50 := X5.out.c0
              have xX51 := X5.out.c1
              have xX5l := X5.out.lt
              replace HB := Lib.hid (HB.out.ext ew21)
              replace F := Lib.hid (F.out.ext ew21)
              replace Y := Lib.hid (Y.out.ext ew21)
              replace P := Lib.hid (P.out.ext ew21)
              replace HQ := Lib.hid (HQ.out.ext ew21)
              replace L := Lib.hid (L.out.ext ew21)
              replace S7 := Lib.hid (S7.out.ext ew21)
              replace HX := Lib.hid (HX.out.ext ew21)
              replace X5 := Lib.hid (X5.out.ext ew21)
              have Hw21 := Lib.hid hw21
              have Hq9 := Lib.hid hq9
              clear hw21 hq9 ew21
              go_wp2_with fail
              clear xF0 xF1 xFl xY0 xY1 xYl xP0 xP1 xPl xL0 xL1 xLl xS70 xS71 xS7l xX50 xX51 xX5l
              rw [← Hw21.out]
              clear hrp6
              go_roundw
              case rel => exact ⟨false, t + 1, by omega, rfl, by go_num, Lib.hid (HW.out.trans (HX.out.b.mono (Nat.le_of_lt HS.out))), Lib.hid (Nat.lt_of_lt_of_le HS.out HX.out.b.size), Lib.hid fun e => by cases e⟩
              case measure => simp [intOf]; omega
          · skip
            have hti2 : ¬ (t : Int) ≤ (i : Int) := by omega
            obtain rfl : t = i + 1 := by omega
            obtain ⟨_, _, _, _, hsq⟩ := squ_zero (v := u1) (f := ps) (i := i) (by rw [HO4.out]; exact hk4)
            rw [HO4.out] at hsq
            obtain ⟨rfl, hls⟩ : v4 = u1 ∧ ls = oddL (sqP ps i) := by
              have h1 := congrArg (·.1) hsq
              have h2 := congrArg (·.2.1) hsq
              exact ⟨h1, h2⟩
            have hts : ts = ls := by rw [HTs.out, hls, HPS.out]; exact car_end HPF.out HPG.out i
            subst hts
            clear hsq hls
            have xF0 := F.out.c0
            have xF1 := F.out.c1
            have xFl := F.out.lt
            have xY0 := Y.out.c0
            have xY1 := Y.out.c1
            have xYl := Y.out.lt
            have xP0 := P.out.c0
            have xP1 := P.out.c1
            have xPl := P.out.lt
            have xL0 := L.out.c0
            have xL1 := L.out.c1
            have xLl := L.out.lt
            have xS70 := S7.out.c0
            have xS71 := S7.out.c1
            have xS7l := S7.out.lt
            go_wp2_with fail
            clear xF0 xF1 xFl xY0 xY1 xYl xP0 xP1 xPl xL0 xL1 xLl xS70 xS71 xS7l
            refine (poly5_any v4 v4 At A6 ct c6 (nt) (ts.length) ts ts _ _ _ S7.out.rd L.out.rd (Nat.le_refl _) (Nat.le_refl _) (by omega) (by omega) (by omega) (by omega)).mono ?_
            rintro e w18 ⟨rfl, hb⟩
            replace HB := Lib.hid (HB.out.ext hb)
            replace F := Lib.hid (F.out.ext hb)
            replace Y := Lib.hid (Y.out.ext hb)
            replace P := Lib.hid (P.out.ext hb)
            replace HQ := Lib.hid (HQ.out.ext hb)
            replace L := Lib.hid (L.out.ext hb)
            replace S7 := Lib.hid (S7.out.ext hb)
            clear hb
            rw [show decide (v4 = v4 ∧ ts = ts) = true from by simp]
            have xF0 := F.out.c0
            have xF1 := F.out.c1
            have xFl := F.out.lt
            have xY0 := Y.out.c0
            have xY1 := Y.out.c1
            have xYl := Y.out.lt
            have xP0 := P.out.c0
            have xP1 := P.out.c1
            have xPl := P.out.lt
            have xL0 := L.out.c0
            have xL1 := L.out.c1
            have xLl := L.out.lt
            have xS70 := S7.out.c0
            have xS71 := S7.out.c1
            have xS7l := S7.out.lt
            go_wp2_with fail
            clear xF0 xF1 xFl xY0 xY1 xYl xP0 xP1 xPl xL0 xL1 xLl xS70 xS71 xS7l
            go_meet
            exact Lib.hid HQ.out.b
    · skip
      have hk10 : (k1 == 0) = false := by simpa using hk1
      have xF0 := F.out.c0
      have xF1 := F.out.c1
      have xFl := F.out.lt
      have xY0 := Y.out.c0
      have xY1 := Y.out.c1
      have xYl := Y.out.lt
      have xP0 := P.out.c0
      have xP1 := P.out.c1
      have xPl := P.out.lt
      go_wp2_with fail
      clear xF0 xF1 xFl xY0 xY1 xYl xP0 xP1 xPl
      go_meet
      exact Lib.hid (Ext.refl _)
  case rest =>
    have hb := hcut.out
    replace HB := Lib.hid (HB.out.ext hb)
    replace F := Lib.hid (F.out.ext hb)
    replace Y := Lib.hid (Y.out.ext hb)
    replace P := Lib.hid (P.out.ext hb)
    clear hb hcut
    clear F Y P
    clear HO1 hyps
    go_wp2_with fail
    refine (drawSquareOn_any A n c wc ((h.below HB.out.b).mono HB.out.b.size) hN).mono ?_
    rintro e w10 ⟨v, A1, n1, c1, xss, n0, rfl, hrxss, hn1, ht1, hb⟩
    replace HB := Lib.hid (HB.out.ext hb)
    clear hb
    have F := Lib.hid (BoxP.new (v := v) (hrxss) 26 rfl)
    obtain ⟨w11, hw11⟩ : ∃ W, W = w10.alloc (.cells #[.int .i64 v, .slice A1 n1 c1] 26) := ⟨_, rfl⟩
    obtain ⟨q1, hq1⟩ : ∃ q, q = w10.heap.size := ⟨_, rfl⟩
    rw [← hw11, ← hq1] at F
    have ew11 : Ext w10 w11 := by rw [hw11]; exact (Ext.refl _).alloc _
    replace HB := Lib.hid (HB.out.ext ew11)
    have Hw11 := Lib.hid hw11
    have Hq1 := Lib.hid hq1
    clear hw11 hq1 ew11
    go_wp2_with fail
    rw [← Hw11.out, ← Hq1.out]
    clear hrxss
    obtain ⟨o, ho⟩ : ∃ o, o = squO v xss n0 := ⟨_, rfl⟩
    obtain ⟨v9, ps, k9⟩ := o
    have HO9 := Lib.hid ho.symm
    clear ho
    have hyps : ps.length ≤ 2000 ∧ totalL ps ≤ 8000 := by have hh := squO_b v xss n0; rw [HO9.out] at hh; exact hh
    refine (show Calls Tryz.prog 14 #[.agg #[.int .i64 v, .slice A1 n1 c1], .int .i64 n0] _ (RetNC v9 ps.length ps k9 _) from by have hc := iSquareOn v A1 (n1) c1 xss n0 _ F.out.rd (by omega) (by omega); rw [HO9.out] at hc; exact hc).mono ?_
    rintro e w12 ⟨A3, c3, rfl, ho, hb⟩
    replace HB := Lib.hid (HB.out.ext hb)
    replace F := Lib.hid (F.out.ext hb)
    have hrps := ho.own.rd
    clear ho hb
    have P := Lib.hid (BoxP.new (v := v9) (hrps) 26 rfl)
    obtain ⟨w13, hw13⟩ : ∃ W, W = w12.alloc (.cells #[.int .i64 v9, .slice A3 ps.length c3] 26) := ⟨_, rfl⟩
    obtain ⟨q2, hq2⟩ : ∃ q, q = w12.heap.size := ⟨_, rfl⟩
    rw [← hw13, ← hq2] at P
    have ew13 : Ext w12 w13 := by rw [hw13]; exact (Ext.refl _).alloc _
    have xF0 := F.out.c0
    have xF1 := F.out.c1
    have xFl := F.out.lt
    replace HB := Lib.hid (HB.out.ext ew13)
    replace F := Lib.hid (F.out.ext ew13)
    have Hw13 := Lib.hid hw13
    have Hq2 := Lib.hid hq2
    clear hw13 hq2 ew13
    go_wp2_with fail
    clear xF0 xF1 xFl
    rw [← Hw13.out, ← Hq2.out]
    clear hrps
    refine (show Calls Tryz.prog 17 #[.agg #[.int .i64 v, .slice A1 n1 c1], .int .i64 n0] _ (RetNC v9 ps.length ps k9 _) from by have hc := sSquareOn v A1 (n1) c1 xss n0 _ F.out.rd (by omega) (by omega); rw [HO9.out] at hc; exact hc).mono ?_
    rintro e w14 ⟨A4, c4, rfl, ho, hb⟩
    replace HB := Lib.hid (HB.out.ext hb)
    replace F := Lib.hid (F.out.ext hb)
    replace P := Lib.hid (P.out.ext hb)
    have hrps := ho.own.rd
    clear ho hb
    have Q := Lib.hid (BoxP.new (v := v9) (hrps) 26 rfl)
    obtain ⟨w15, hw15⟩ : ∃ W, W = w14.alloc (.cells #[.int .i64 v9, .slice A4 ps.length c4] 26) := ⟨_, rfl⟩
    obtain ⟨q3, hq3⟩ : ∃ q, q = w14.heap.size := ⟨_, rfl⟩
    rw [← hw15, ← hq3] at Q
    have ew15 : Ext w14 w15 := by rw [hw15]; exact (Ext.refl _).alloc _
    have xF0 := F.out.c0
    have xF1 := F.out.c1
    have xFl := F.out.lt
    have xP0 := P.out.c0
    have xP1 := P.out.c1
    have xPl := P.out.lt
    replace HB := Lib.hid (HB.out.ext ew15)
    replace F := Lib.hid (F.out.ext ew15)
    replace P := Lib.hid (P.out.ext ew15)
    have Hw15 := Lib.hid hw15
    have Hq3 := Lib.hid hq3
    clear hw15 hq3 ew15
    go_wp2_with fail
    clear xF0 xF1 xFl xP0 xP1 xPl
    rw [← Hw15.out, ← Hq3.out]
    clear hrps
    have hnk9 : (k9 != k9) = false := by simp
    refine (poly5_any v9 v9 A3 A4 c3 c4 (ps.length) (ps.length) ps ps _ _ _ P.out.rd Q.out.rd (Nat.le_refl _) (Nat.le_refl _) (by omega) (by omega) (by omega) (by omega)).mono ?_
    rintro e w16 ⟨rfl, hb⟩
    replace HB := Lib.hid (HB.out.ext hb)
    replace F := Lib.hid (F.out.ext hb)
    replace P := Lib.hid (P.out.ext hb)
    replace Q := Lib.hid (Q.out.ext hb)
    clear hb
    rw [show decide (v9 = v9 ∧ ps = ps) = true from by simp]
    clear Q
    have xF0 := F.out.c0
    have xF1 := F.out.c1
    have xFl := F.out.lt
    have xP0 := P.out.c0
    have xP1 := P.out.c1
    have xPl := P.out.lt
    go_upto_region 34 with fail
    clear hnk9
    go_cut [205] from 198 to 205 (fun b wc => b = .bool (k9 == 0 && decide (0 < n1)) ∧ wc = w16)
    case first =>
      by_cases hk9 : k9 = 0
      · have e9 : (k9 == 0) = true := by simpa using hk9
        clear hk9
        by_cases hn0 : 0 < n1
        · have en : decide ((0 : Int) < (n1 : Int)) = true := decide_eq_true (by omega)
          have en2 : (0 : Int) < (n1 : Int) := by omega
          go_wp2_with fail
          go_meet
          exact ⟨by rw [e9, decide_eq_true hn0]; rfl, rfl⟩
        · obtain rfl : n1 = 0 := by omega
          go_wp2_with fail
          go_meet
          exact ⟨by rw [e9]; rfl, rfl⟩
      · have e9 : (k9 == 0) = false := by simpa using hk9
        clear hk9
        go_wp2_with fail
        go_meet
        exact ⟨by rw [e9]; rfl, rfl⟩
    case rest =>
      obtain ⟨hc205, hwc⟩ := hcut
      subst hc205
      obtain rfl := hwc.symm
      clear hwc
      obtain ⟨bb, hbb⟩ : ∃ b, b = (k9 == 0 && decide (0 < n1)) := ⟨_, rfl⟩
      rw [← hbb]
      have HBB := Lib.hid hbb
      clear hbb
      go_upto_if 205 with fail
      clear xF0 xF1 xFl xP0 xP1 xPl
      go_cut [2, 31, 32, 33, 34] from 205 to 242 (fun _ _ _ _ _ wc => Hid (Ext w16 wc))
      case first =>
        have HQ : Hid (From w16 w16) := Lib.hid ⟨Ext.refl _⟩
        by_cases hbk : k9 = 0 ∧ 0 < n1
        · skip
          obtain ⟨hk9, hn1p⟩ := hbk
          have hbt : bb = true := by rw [HBB.out, hk9, decide_eq_true hn1p]; rfl
          rw [hbt]
          clear HBB hbt
          subst hk9
          have hz9 : (squO v xss n0).2.2 = 0 := by rw [HO9.out]
          obtain ⟨hpol, _, _, _, _⟩ := squ_zero hz9
          obtain ⟨dd, hdd⟩ : ∃ d, d = degL xss := ⟨_, rfl⟩
          have hxl : 0 < xss.length := by rw [F.out.rd.len]; exact hn1p
          have HDO := Lib.hid (show dopO v xss = (dd, 0) by rw [dopO_ok hpol hxl, hdd])
          have HZ9 := Lib.hid hz9
          have HDD := Lib.hid hdd
          clear hz9 hpol hdd
          have xF0 := F.out.c0
          have xF1 := F.out.c1
          have xFl := F.out.lt
          have xP0 := P.out.c0
          have xP1 := P.out.c1
          have xPl := P.out.lt
          go_wp2_with fail
          clear xF0 xF1 xFl xP0 xP1 xPl
          refine (show Calls Tryz.prog 18 #[.agg #[.int .i64 v, .slice A1 n1 c1]] _ (RetIIC dd 0 _) from by have hc := iDegreeOfPoly v A1 n1 c1 xss _ F.out.rd (by omega) (by omega); rw [HDO.out] at hc; exact hc).mono ?_
          rintro e w17 ⟨rfl, hb⟩
          replace HB := Lib.hid (HB.out.ext hb)
          replace F := Lib.hid (F.out.ext hb)
          replace P := Lib.hid (P.out.ext hb)
          replace HQ := Lib.hid (HQ.out.ext hb)
          clear hb
          by_cases hd1 : dd < n0
          · skip
            have hps := squ_above HZ9.out (show degL xss < n0 by rw [← HDD.out]; exact hd1)
            rw [HO9.out] at hps
            have hpl : ((ps.length : Int) != 0) = false := by
              have hps2 : ps = [] := hps
              rw [hps2]; rfl
            have hpl2 : (ps.length : Int) = 0 := by
              have hps2 : ps = [] := hps
              rw [hps2]; rfl
            have hne : (n0 == dd) = false := by simp; omega
            clear hps
            have xF0 := F.out.c0
            have xF1 := F.out.c1
            have xFl := F.out.lt
            have xP0 := P.out.c0
            have xP1 := P.out.c1
            have xPl := P.out.lt
            go_wp2_with fail
            clear xF0 xF1 xFl xP0 xP1 xPl
            clear hd1
            obtain ⟨o, ho⟩ : ∃ o, o = mlpO v xss v xss := ⟨_, rfl⟩
            obtain ⟨v12, p12, k12⟩ := o
            have HO12 := Lib.hid ho.symm
            clear ho
            have hyp12 : p12.length ≤ 2000 ∧ totalL p12 ≤ 8000 := by have hh := mlpO_b v xss v xss; rw [HO12.out] at hh; exact hh
            refine (show Calls Tryz.prog 7 #[.agg #[.int .i64 v, .slice A1 n1 c1], .agg #[.int .i64 v, .slice A1 n1 c1]] _ (RetNC v12 p12.length p12 k12 _) from by have hc := iMultiplyPolys v v A1 A1 (n1) c1 (n1) c1 xss xss _ F.out.rd F.out.rd (by omega) (by omega) (by omega) (by omega); rw [HO12.out] at hc; exact hc).mono ?_
            rintro e w18 ⟨A5, c5, rfl, ho, hb⟩
            replace HB := Lib.hid (HB.out.ext hb)
            replace F := Lib.hid (F.out.ext hb)
            replace P := Lib.hid (P.out.ext hb)
            replace HQ := Lib.hid (HQ.out.ext hb)
            have hrp12 := ho.own.rd
            clear ho hb
            have OW := Lib.hid (BoxP.new (v := v12) (hrp12) 26 rfl)
            obtain ⟨w19, hw19⟩ : ∃ W, W = w18.alloc (.cells #[.int .i64 v12, .slice A5 p12.length c5] 26) := ⟨_, rfl⟩
            obtain ⟨q4, hq4⟩ : ∃ q, q = w18.heap.size := ⟨_, rfl⟩
            rw [← hw19, ← hq4] at OW
            have ew19 : Ext w18 w19 := by rw [hw19]; exact (Ext.refl _).alloc _
            have xF0 := F.out.c0
            have xF1 := F.out.c1
            have xFl := F.out.lt
            have xP0 := P.out.c0
            have xP1 := P.out.c1
            have xPl := P.out.lt
            replace HB := Lib.hid (HB.out.ext ew19)
            replace F := Lib.hid (F.out.ext ew19)
            replace P := Lib.hid (P.out.ext ew19)
            replace HQ := Lib.hid (HQ.out.ext ew19)
            have Hw19 := Lib.hid hw19
            have Hq4 := Lib.hid hq4
            clear hw19 hq4 ew19
            go_wp2_with fail
            clear xF0 xF1 xFl xP0 xP1 xPl
            rw [← Hw19.out]
            clear hrp12
            go_meet
            exact Lib.hid HQ.out.b
          · skip
            by_cases hd2 : n0 = dd
            · skip
              have hne : (n0 == dd) = true := by simpa using hd2
              have hOw := squ_own HZ9.out hxl (by rw [← HDD.out]; exact hd2)
              rw [HO9.out] at hOw
              have HO12 := Lib.hid hOw
              clear hOw hd2
              have xF0 := F.out.c0
              have xF1 := F.out.c1
              have xFl := F.out.lt
              have xP0 := P.out.c0
              have xP1 := P.out.c1
              have xPl := P.out.lt
              go_wp2_with fail
              clear xF0 xF1 xFl xP0 xP1 xPl
              clear hd1
              refine (show Calls Tryz.prog 7 #[.agg #[.int .i64 v, .slice A1 n1 c1], .agg #[.int .i64 v, .slice A1 n1 c1]] _ (RetNC v9 ps.length ps 0 _) from by have hc := iMultiplyPolys v v A1 A1 (n1) c1 (n1) c1 xss xss _ F.out.rd F.out.rd (by omega) (by omega) (by omega) (by omega); rw [HO12.out] at hc; exact hc).mono ?_
              rintro e w18 ⟨A5, c5, rfl, ho, hb⟩
              replace HB := Lib.hid (HB.out.ext hb)
              replace F := Lib.hid (F.out.ext hb)
              replace P := Lib.hid (P.out.ext hb)
              replace HQ := Lib.hid (HQ.out.ext hb)
              have hrps := ho.own.rd
              clear ho hb
              have OW := Lib.hid (BoxP.new (v := v9) (hrps) 26 rfl)
              obtain ⟨w19, hw19⟩ : ∃ W, W = w18.alloc (.cells #[.int .i64 v9, .slice A5 ps.length c5] 26) := ⟨_, rfl⟩
              obtain ⟨q4, hq4⟩ : ∃ q, q = w18.heap.size := ⟨_, rfl⟩
              rw [← hw19, ← hq4] at OW
              have ew19 : Ext w18 w19 := by rw [hw19]; exact (Ext.refl _).alloc _
              have xF0 := F.out.c0
              have xF1 := F.out.c1
              have xFl := F.out.lt
              have xP0 := P.out.c0
              have xP1 := P.out.c1
              have xPl := P.out.lt
              replace HB := Lib.hid (HB.out.ext ew19)
              replace F := Lib.hid (F.out.ext ew19)
              replace P := Lib.hid (P.out.ext ew19)
              replace HQ := Lib.hid (HQ.out.ext ew19)
              have Hw19 := Lib.hid hw19
              have Hq4 := Lib.hid hq4
              clear hw19 hq4 ew19
              go_wp2_with fail
              clear xF0 xF1 xFl xP0 xP1 xPl
              rw [← Hw19.out, ← Hq4.out]
              clear hrps
              refine (poly5_any v9 v9 A5 A3 c5 c3 (ps.length) (ps.length) ps ps _ _ _ OW.out.rd P.out.rd (Nat.le_refl _) (Nat.le_refl _) (by omega) (by omega) (by omega) (by omega)).mono ?_
              rintro e w20 ⟨rfl, hb⟩
              replace HB := Lib.hid (HB.out.ext hb)
              replace F := Lib.hid (F.out.ext hb)
              replace P := Lib.hid (P.out.ext hb)
              replace HQ := Lib.hid (HQ.out.ext hb)
              replace OW := Lib.hid (OW.out.ext hb)
              clear hb
              rw [show decide (v9 = v9 ∧ ps = ps) = true from by simp]
              have xF0 := F.out.c0
              have xF1 := F.out.c1
              have xFl := F.out.lt
              have xP0 := P.out.c0
              have xP1 := P.out.c1
              have xPl := P.out.lt
              have xOW0 := OW.out.c0
              have xOW1 := OW.out.c1
              have xOWl := OW.out.lt
              go_wp2_with fail
              clear xF0 xF1 xFl xP0 xP1 xPl xOW0 xOW1 xOWl
              go_meet
              exact Lib.hid HQ.out.b
            · skip
              have hne : (n0 == dd) = false := by simpa using hd2
              have xF0 := F.out.c0
              have xF1 := F.out.c1
              have xFl := F.out.lt
              have xP0 := P.out.c0
              have xP1 := P.out.c1
              have xPl := P.out.lt
              go_wp2_with fail
              clear xF0 xF1 xFl xP0 xP1 xPl
              clear hd1 hd2
              obtain ⟨o, ho⟩ : ∃ o, o = mlpO v xss v xss := ⟨_, rfl⟩
              obtain ⟨v12, p12, k12⟩ := o
              have HO12 := Lib.hid ho.symm
              clear ho
              have hyp12 : p12.length ≤ 2000 ∧ totalL p12 ≤ 8000 := by have hh := mlpO_b v xss v xss; rw [HO12.out] at hh; exact hh
              refine (show Calls Tryz.prog 7 #[.agg #[.int .i64 v, .slice A1 n1 c1], .agg #[.int .i64 v, .slice A1 n1 c1]] _ (RetNC v12 p12.length p12 k12 _) from by have hc := iMultiplyPolys v v A1 A1 (n1) c1 (n1) c1 xss xss _ F.out.rd F.out.rd (by omega) (by omega) (by omega) (by omega); rw [HO12.out] at hc; exact hc).mono ?_
              rintro e w18 ⟨A5, c5, rfl, ho, hb⟩
              replace HB := Lib.hid (HB.out.ext hb)
              replace F := Lib.hid (F.out.ext hb)
              replace P := Lib.hid (P.out.ext hb)
              replace HQ := Lib.hid (HQ.out.ext hb)
              have hrp12 := ho.own.rd
              clear ho hb
              have OW := Lib.hid (BoxP.new (v := v12) (hrp12) 26 rfl)
              obtain ⟨w19, hw19⟩ : ∃ W, W = w18.alloc (.cells #[.int .i64 v12, .slice A5 p12.length c5] 26) := ⟨_, rfl⟩
              obtain ⟨q4, hq4⟩ : ∃ q, q = w18.heap.size := ⟨_, rfl⟩
              rw [← hw19, ← hq4] at OW
              have ew19 : Ext w18 w19 := by rw [hw19]; exact (Ext.refl _).alloc _
              have xF0 := F.out.c0
              have xF1 := F.out.c1
              have xFl := F.out.lt
              have xP0 := P.out.c0
              have xP1 := P.out.c1
              have xPl := P.out.lt
              replace HB := Lib.hid (HB.out.ext ew19)
              replace F := Lib.hid (F.out.ext ew19)
              replace P := Lib.hid (P.out.ext ew19)
              replace HQ := Lib.hid (HQ.out.ext ew19)
              have Hw19 := Lib.hid hw19
              have Hq4 := Lib.hid hq4
              clear hw19 hq4 ew19
              go_wp2_with fail
              clear xF0 xF1 xFl xP0 xP1 xPl
              rw [← Hw19.out]
              clear hrp12
              go_meet
              exact Lib.hid HQ.out.b
        · skip
          have hbt : bb = false := by
            rw [HBB.out]
            rcases Decidable.em (k9 = 0) with e | e
            · rw [decide_eq_false (fun x => hbk ⟨e, x⟩)]; simp
            · have e2 : (k9 == 0) = false := by simpa using e
              rw [e2]; rfl
          rw [hbt]
          clear HBB hbt hbk
          have xF0 := F.out.c0
          have xF1 := F.out.c1
          have xFl := F.out.lt
          have xP0 := P.out.c0
          have xP1 := P.out.c1
          have xPl := P.out.lt
          go_wp2_with fail
          clear xF0 xF1 xFl xP0 xP1 xPl
          go_meet
          exact Lib.hid (Ext.refl _)
      case rest =>
        have hb := hcut.out
        replace HB := Lib.hid (HB.out.ext hb)
        replace F := Lib.hid (F.out.ext hb)
        replace P := Lib.hid (P.out.ext hb)
        clear hb hcut
        clear F P
        clear HO9 HBB hyps
        go_wp2_with fail
        refine (drawSubstituteForms_any A n c wc ((h.below HB.out.b).mono HB.out.b.size) hN).mono ?_
        rintro e w17 ⟨v, A1, n1, c1, xss, A2, n2, c2, fs, rfl, hrxss, hn1, ht1, hrfs, hn2, hb⟩
        replace HB := Lib.hid (HB.out.ext hb)
        clear hb
        have FI := Lib.hid (IntsP.mk hrfs)
        clear hrfs
        have F := Lib.hid (BoxP.new (v := v) (hrxss) 26 rfl)
        obtain ⟨w18, hw18⟩ : ∃ W, W = w17.alloc (.cells #[.int .i64 v, .slice A1 n1 c1] 26) := ⟨_, rfl⟩
        obtain ⟨q1, hq1⟩ : ∃ q, q = w17.heap.size := ⟨_, rfl⟩
        rw [← hw18, ← hq1] at F
        have ew18 : Ext w17 w18 := by rw [hw18]; exact (Ext.refl _).alloc _
        replace HB := Lib.hid (HB.out.ext ew18)
        replace FI := Lib.hid (FI.out.ext ew18)
        have Hw18 := Lib.hid hw18
        have Hq1 := Lib.hid hq1
        clear hw18 hq1 ew18
        go_wp2_with fail
        rw [← Hw18.out, ← Hq1.out]
        clear hrxss
        obtain ⟨o, ho⟩ : ∃ o, o = subO v xss fs := ⟨_, rfl⟩
        obtain ⟨v13, ps, k13⟩ := o
        have HO13 := Lib.hid ho.symm
        clear ho
        have hyps : ps.length ≤ 2000 ∧ totalL ps ≤ 8000 := by have hh := subO_b v xss fs; rw [HO13.out] at hh; exact hh
        refine (show Calls Tryz.prog 20 #[.agg #[.int .i64 v, .slice A1 n1 c1], .slice A2 n2 c2] _ (RetNC v13 ps.length ps k13 _) from by have hc := iSubstituteForms v A1 A2 (n1) c1 n2 c2 xss fs _ F.out.rd FI.out.rd (by omega) (by omega) (by omega); rw [HO13.out] at hc; exact hc).mono ?_
        rintro e w19 ⟨A3, c3, rfl, ho, hb⟩
        replace HB := Lib.hid (HB.out.ext hb)
        replace FI := Lib.hid (FI.out.ext hb)
        replace F := Lib.hid (F.out.ext hb)
        have hrps := ho.own.rd
        clear ho hb
        have P := Lib.hid (BoxP.new (v := v13) (hrps) 26 rfl)
        obtain ⟨w20, hw20⟩ : ∃ W, W = w19.alloc (.cells #[.int .i64 v13, .slice A3 ps.length c3] 26) := ⟨_, rfl⟩
        obtain ⟨q2, hq2⟩ : ∃ q, q = w19.heap.size := ⟨_, rfl⟩
        rw [← hw20, ← hq2] at P
        have ew20 : Ext w19 w20 := by rw [hw20]; exact (Ext.refl _).alloc _
        have xF0 := F.out.c0
        have xF1 := F.out.c1
        have xFl := F.out.lt
        replace HB := Lib.hid (HB.out.ext ew20)
        replace FI := Lib.hid (FI.out.ext ew20)
        replace F := Lib.hid (F.out.ext ew20)
        have Hw20 := Lib.hid hw20
        have Hq2 := Lib.hid hq2
        clear hw20 hq2 ew20
        go_wp2_with fail
        clear xF0 xF1 xFl
        rw [← Hw20.out, ← Hq2.out]
        clear hrps
        refine (show Calls Tryz.prog 21 #[.agg #[.int .i64 v, .slice A1 n1 c1], .slice A2 n2 c2] _ (RetNC v13 ps.length ps k13 _) from by have hc := sSubstituteForms v A1 A2 (n1) c1 n2 c2 xss fs _ F.out.rd FI.out.rd (by omega) (by omega) (by omega); rw [HO13.out] at hc; exact hc).mono ?_
        rintro e w21 ⟨A4, c4, rfl, ho, hb⟩
        replace HB := Lib.hid (HB.out.ext hb)
        replace FI := Lib.hid (FI.out.ext hb)
        replace F := Lib.hid (F.out.ext hb)
        replace P := Lib.hid (P.out.ext hb)
        have hrps := ho.own.rd
        clear ho hb
        have Q := Lib.hid (BoxP.new (v := v13) (hrps) 26 rfl)
        obtain ⟨w22, hw22⟩ : ∃ W, W = w21.alloc (.cells #[.int .i64 v13, .slice A4 ps.length c4] 26) := ⟨_, rfl⟩
        obtain ⟨q3, hq3⟩ : ∃ q, q = w21.heap.size := ⟨_, rfl⟩
        rw [← hw22, ← hq3] at Q
        have ew22 : Ext w21 w22 := by rw [hw22]; exact (Ext.refl _).alloc _
        have xF0 := F.out.c0
        have xF1 := F.out.c1
        have xFl := F.out.lt
        have xP0 := P.out.c0
        have xP1 := P.out.c1
        have xPl := P.out.lt
        replace HB := Lib.hid (HB.out.ext ew22)
        replace FI := Lib.hid (FI.out.ext ew22)
        replace F := Lib.hid (F.out.ext ew22)
        replace P := Lib.hid (P.out.ext ew22)
        have Hw22 := Lib.hid hw22
        have Hq3 := Lib.hid hq3
        clear hw22 hq3 ew22
        go_wp2_with fail
        clear xF0 xF1 xFl xP0 xP1 xPl
        rw [← Hw22.out, ← Hq3.out]
        clear hrps
        have hnk13 : (k13 != k13) = false := by simp
        refine (poly5_any v13 v13 A3 A4 c3 c4 (ps.length) (ps.length) ps ps _ _ _ P.out.rd Q.out.rd (Nat.le_refl _) (Nat.le_refl _) (by omega) (by omega) (by omega) (by omega)).mono ?_
        rintro e w23 ⟨rfl, hb⟩
        replace HB := Lib.hid (HB.out.ext hb)
        replace FI := Lib.hid (FI.out.ext hb)
        replace F := Lib.hid (F.out.ext hb)
        replace P := Lib.hid (P.out.ext hb)
        replace Q := Lib.hid (Q.out.ext hb)
        clear hb
        rw [show decide (v13 = v13 ∧ ps = ps) = true from by simp]
        clear Q
        have xF0 := F.out.c0
        have xF1 := F.out.c1
        have xFl := F.out.lt
        have xP0 := P.out.c0
        have xP1 := P.out.c1
        have xPl := P.out.lt
        go_upto_if 270 with fail
        clear xF0 xF1 xFl xP0 xP1 xPl
        clear hnk13
        go_cut [2, 41, 42, 43, 44, 45, 46] from 269 to 300 (fun _ _ _ _ _ _ _ wc => Hid (Ext w23 wc))
        case first =>
          have HQ : Hid (From w23 w23) := Lib.hid ⟨Ext.refl _⟩
          by_cases hk13 : k13 = 0
          · skip
            have e13 : (k13 == 0) = true := by simpa using hk13
            subst hk13
            have xF0 := F.out.c0
            have xF1 := F.out.c1
            have xFl := F.out.lt
            have xP0 := P.out.c0
            have xP1 := P.out.c1
            have xPl := P.out.lt
            go_wp2_with fail
            clear xF0 xF1 xFl xP0 xP1 xPl
            obtain ⟨o, ho⟩ : ∃ o, o = squO v13 ps 2 := ⟨_, rfl⟩
            obtain ⟨v15, l5, k15⟩ := o
            have HO15 := Lib.hid ho.symm
            clear ho
            have hyl5 : l5.length ≤ 2000 ∧ totalL l5 ≤ 8000 := by have hh := squO_b v13 ps 2; rw [HO15.out] at hh; exact hh
            refine (show Calls Tryz.prog 14 #[.agg #[.int .i64 v13, .slice A3 ps.length c3], .int .i64 2] _ (RetNC v15 l5.length l5 k15 _) from by have hc := iSquareOn v13 A3 (ps.length) c3 ps 2 _ P.out.rd (by omega) (by omega); rw [HO15.out] at hc; exact hc).mono ?_
            rintro e w24 ⟨A5, c5, rfl, ho, hb⟩
            replace HB := Lib.hid (HB.out.ext hb)
            replace FI := Lib.hid (FI.out.ext hb)
            replace F := Lib.hid (F.out.ext hb)
            replace P := Lib.hid (P.out.ext hb)
            replace HQ := Lib.hid (HQ.out.ext hb)
            have hrl5 := ho.own.rd
            clear ho hb
            have L := Lib.hid (BoxP.new (v := v15) (hrl5) 26 rfl)
            obtain ⟨w25, hw25⟩ : ∃ W, W = w24.alloc (.cells #[.int .i64 v15, .slice A5 l5.length c5] 26) := ⟨_, rfl⟩
            obtain ⟨q4, hq4⟩ : ∃ q, q = w24.heap.size := ⟨_, rfl⟩
            rw [← hw25, ← hq4] at L
            have ew25 : Ext w24 w25 := by rw [hw25]; exact (Ext.refl _).alloc _
            have xF0 := F.out.c0
            have xF1 := F.out.c1
            have xFl := F.out.lt
            have xP0 := P.out.c0
            have xP1 := P.out.c1
            have xPl := P.out.lt
            replace HB := Lib.hid (HB.out.ext ew25)
            replace FI := Lib.hid (FI.out.ext ew25)
            replace F := Lib.hid (F.out.ext ew25)
            replace P := Lib.hid (P.out.ext ew25)
            replace HQ := Lib.hid (HQ.out.ext ew25)
            have Hw25 := Lib.hid hw25
            have Hq4 := Lib.hid hq4
            clear hw25 hq4 ew25
            go_wp2_with fail
            clear xF0 xF1 xFl xP0 xP1 xPl
            rw [← Hw25.out, ← Hq4.out]
            clear hrl5
            obtain ⟨o, ho⟩ : ∃ o, o = squO v xss 2 := ⟨_, rfl⟩
            obtain ⟨v16, l6, k16⟩ := o
            have HO16 := Lib.hid ho.symm
            clear ho
            have hyl6 : l6.length ≤ 2000 ∧ totalL l6 ≤ 8000 := by have hh := squO_b v xss 2; rw [HO16.out] at hh; exact hh
            by_cases hk15 : k15 = 0
            · skip
              subst hk15
              by_cases hk16 : k16 = 0
              · skip
                subst hk16
                refine (show Calls Tryz.prog 14 #[.agg #[.int .i64 v, .slice A1 n1 c1], .int .i64 2] _ (RetNC v16 l6.length l6 0 _) from by have hc := iSquareOn v A1 (n1) c1 xss 2 _ F.out.rd (by omega) (by omega); rw [HO16.out] at hc; exact hc).mono ?_
                rintro e w26 ⟨A6, c6, rfl, ho, hb⟩
                replace HB := Lib.hid (HB.out.ext hb)
                replace FI := Lib.hid (FI.out.ext hb)
                replace F := Lib.hid (F.out.ext hb)
                replace P := Lib.hid (P.out.ext hb)
                replace HQ := Lib.hid (HQ.out.ext hb)
                replace L := Lib.hid (L.out.ext hb)
                have hrl6 := ho.own.rd
                clear ho hb
                have M := Lib.hid (BoxP.new (v := v16) (hrl6) 26 rfl)
                obtain ⟨w27, hw27⟩ : ∃ W, W = w26.alloc (.cells #[.int .i64 v16, .slice A6 l6.length c6] 26) := ⟨_, rfl⟩
                obtain ⟨q5, hq5⟩ : ∃ q, q = w26.heap.size := ⟨_, rfl⟩
                rw [← hw27, ← hq5] at M
                have ew27 : Ext w26 w27 := by rw [hw27]; exact (Ext.refl _).alloc _
                have xF0 := F.out.c0
                have xF1 := F.out.c1
                have xFl := F.out.lt
                have xP0 := P.out.c0
                have xP1 := P.out.c1
                have xPl := P.out.lt
                have xL0 := L.out.c0
                have xL1 := L.out.c1
                have xLl := L.out.lt
                replace HB := Lib.hid (HB.out.ext ew27)
                replace FI := Lib.hid (FI.out.ext ew27)
                replace F := Lib.hid (F.out.ext ew27)
                replace P := Lib.hid (P.out.ext ew27)
                replace HQ := Lib.hid (HQ.out.ext ew27)
                replace L := Lib.hid (L.out.ext ew27)
                have Hw27 := Lib.hid hw27
                have Hq5 := Lib.hid hq5
                clear hw27 hq5 ew27
                go_wp2_with fail
                clear xF0 xF1 xFl xP0 xP1 xPl xL0 xL1 xLl
                rw [← Hw27.out, ← Hq5.out]
                clear hrl6
                by_cases hk17 : (subO v16 l6 fs).2.2 = 0
                · skip
                  have hss := sub_squ (v := v) (f := xss) (fs := fs) (i := 2) (by rw [HO13.out]) (by rw [HO13.out]; show (squO v13 ps 2).2.2 = 0; rw [HO15.out]) (by rw [HO16.out]) (by rw [HO16.out]; exact hk17)
                  rw [HO13.out, HO16.out] at hss
                  have hs2 : squO v13 ps 2 = subO v16 l6 fs := hss
                  rw [HO15.out] at hs2
                  have HO17 := Lib.hid hs2.symm
                  clear hss hs2 hk17
                  refine (show Calls Tryz.prog 20 #[.agg #[.int .i64 v16, .slice A6 l6.length c6], .slice A2 n2 c2] _ (RetNC v15 l5.length l5 0 _) from by have hc := iSubstituteForms v16 A6 A2 (l6.length) c6 n2 c2 l6 fs _ M.out.rd FI.out.rd (by omega) (by omega) (by omega); rw [HO17.out] at hc; exact hc).mono ?_
                  rintro e w28 ⟨A7, c7, rfl, ho, hb⟩
                  replace HB := Lib.hid (HB.out.ext hb)
                  replace FI := Lib.hid (FI.out.ext hb)
                  replace F := Lib.hid (F.out.ext hb)
                  replace P := Lib.hid (P.out.ext hb)
                  replace HQ := Lib.hid (HQ.out.ext hb)
                  replace L := Lib.hid (L.out.ext hb)
                  replace M := Lib.hid (M.out.ext hb)
                  have hrl5 := ho.own.rd
                  clear ho hb
                  have NN := Lib.hid (BoxP.new (v := v15) (hrl5) 26 rfl)
                  obtain ⟨w29, hw29⟩ : ∃ W, W = w28.alloc (.cells #[.int .i64 v15, .slice A7 l5.length c7] 26) := ⟨_, rfl⟩
                  obtain ⟨q6, hq6⟩ : ∃ q, q = w28.heap.size := ⟨_, rfl⟩
                  rw [← hw29, ← hq6] at NN
                  have ew29 : Ext w28 w29 := by rw [hw29]; exact (Ext.refl _).alloc _
                  have xF0 := F.out.c0
                  have xF1 := F.out.c1
                  have xFl := F.out.lt
                  have xP0 := P.out.c0
                  have xP1 := P.out.c1
                  have xPl := P.out.lt
                  have xL0 := L.out.c0
                  have xL1 := L.out.c1
                  have xLl := L.out.lt
                  have xM0 := M.out.c0
                  have xM1 := M.out.c1
                  have xMl := M.out.lt
                  replace HB := Lib.hid (HB.out.ext ew29)
                  replace FI := Lib.hid (FI.out.ext ew29)
                  replace F := Lib.hid (F.out.ext ew29)
                  replace P := Lib.hid (P.out.ext ew29)
                  replace HQ := Lib.hid (HQ.out.ext ew29)
                  replace L := Lib.hid (L.out.ext ew29)
                  replace M := Lib.hid (M.out.ext ew29)
                  have Hw29 := Lib.hid hw29
                  have Hq6 := Lib.hid hq6
                  clear hw29 hq6 ew29
                  go_wp2_with fail
                  clear xF0 xF1 xFl xP0 xP1 xPl xL0 xL1 xLl xM0 xM1 xMl
                  rw [← Hw29.out, ← Hq6.out]
                  clear hrl5
                  refine (poly5_any v15 v15 A5 A7 c5 c7 (l5.length) (l5.length) l5 l5 _ _ _ L.out.rd NN.out.rd (Nat.le_refl _) (Nat.le_refl _) (by omega) (by omega) (by omega) (by omega)).mono ?_
                  rintro e w30 ⟨rfl, hb⟩
                  replace HB := Lib.hid (HB.out.ext hb)
                  replace FI := Lib.hid (FI.out.ext hb)
                  replace F := Lib.hid (F.out.ext hb)
                  replace P := Lib.hid (P.out.ext hb)
                  replace HQ := Lib.hid (HQ.out.ext hb)
                  replace L := Lib.hid (L.out.ext hb)
                  replace M := Lib.hid (M.out.ext hb)
                  replace NN := Lib.hid (NN.out.ext hb)
                  clear hb
                  rw [show decide (v15 = v15 ∧ l5 = l5) = true from by simp]
                  have xF0 := F.out.c0
                  have xF1 := F.out.c1
                  have xFl := F.out.lt
                  have xP0 := P.out.c0
                  have xP1 := P.out.c1
                  have xPl := P.out.lt
                  have xL0 := L.out.c0
                  have xL1 := L.out.c1
                  have xLl := L.out.lt
                  have xM0 := M.out.c0
                  have xM1 := M.out.c1
                  have xMl := M.out.lt
                  have xNN0 := NN.out.c0
                  have xNN1 := NN.out.c1
                  have xNNl := NN.out.lt
                  go_wp2_with fail
                  clear xF0 xF1 xFl xP0 xP1 xPl xL0 xL1 xLl xM0 xM1 xMl xNN0 xNN1 xNNl
                  go_meet
                  exact Lib.hid HQ.out.b
                · skip
                  obtain ⟨o, ho⟩ : ∃ o, o = subO v16 l6 fs := ⟨_, rfl⟩
                  obtain ⟨v17, l7, k17⟩ := o
                  have HO17 := Lib.hid ho.symm
                  clear ho
                  have hyl7 : l7.length ≤ 2000 ∧ totalL l7 ≤ 8000 := by have hh := subO_b v16 l6 fs; rw [HO17.out] at hh; exact hh
                  rw [HO17.out] at hk17
                  have e17 : (k17 == 0) = false := by simpa using hk17
                  clear hk17
                  refine (show Calls Tryz.prog 20 #[.agg #[.int .i64 v16, .slice A6 l6.length c6], .slice A2 n2 c2] _ (RetNC v17 l7.length l7 k17 _) from by have hc := iSubstituteForms v16 A6 A2 (l6.length) c6 n2 c2 l6 fs _ M.out.rd FI.out.rd (by omega) (by omega) (by omega); rw [HO17.out] at hc; exact hc).mono ?_
                  rintro e w28 ⟨A7, c7, rfl, ho, hb⟩
                  replace HB := Lib.hid (HB.out.ext hb)
                  replace FI := Lib.hid (FI.out.ext hb)
                  replace F := Lib.hid (F.out.ext hb)
                  replace P := Lib.hid (P.out.ext hb)
                  replace HQ := Lib.hid (HQ.out.ext hb)
                  replace L := Lib.hid (L.out.ext hb)
                  replace M := Lib.hid (M.out.ext hb)
                  have hrl7 := ho.own.rd
                  clear ho hb
                  have NN := Lib.hid (BoxP.new (v := v17) (hrl7) 26 rfl)
                  obtain ⟨w29, hw29⟩ : ∃ W, W = w28.alloc (.cells #[.int .i64 v17, .slice A7 l7.length c7] 26) := ⟨_, rfl⟩
                  obtain ⟨q6, hq6⟩ : ∃ q, q = w28.heap.size := ⟨_, rfl⟩
                  rw [← hw29, ← hq6] at NN
                  have ew29 : Ext w28 w29 := by rw [hw29]; exact (Ext.refl _).alloc _
                  have xF0 := F.out.c0
                  have xF1 := F.out.c1
                  have xFl := F.out.lt
                  have xP0 := P.out.c0
                  have xP1 := P.out.c1
                  have xPl := P.out.lt
                  have xL0 := L.out.c0
                  have xL1 := L.out.c1
                  have xLl := L.out.lt
                  have xM0 := M.out.c0
                  have xM1 := M.out.c1
                  have xMl := M.out.lt
                  replace HB := Lib.hid (HB.out.ext ew29)
                  replace FI := Lib.hid (FI.out.ext ew29)
                  replace F := Lib.hid (F.out.ext ew29)
                  replace P := Lib.hid (P.out.ext ew29)
                  replace HQ := Lib.hid (HQ.out.ext ew29)
                  replace L := Lib.hid (L.out.ext ew29)
                  replace M := Lib.hid (M.out.ext ew29)
                  have Hw29 := Lib.hid hw29
                  have Hq6 := Lib.hid hq6
                  clear hw29 hq6 ew29
                  go_wp2_with fail
                  clear xF0 xF1 xFl xP0 xP1 xPl xL0 xL1 xLl xM0 xM1 xMl
                  rw [← Hw29.out]
                  clear hrl7
                  go_meet
                  exact Lib.hid HQ.out.b
              · skip
                have ek16 : (k16 != 0) = true := by simpa using hk16
                have ek162 : (k16 == 0) = false := by simpa using hk16
                clear hk16
                refine (show Calls Tryz.prog 14 #[.agg #[.int .i64 v, .slice A1 n1 c1], .int .i64 2] _ (RetNC v16 l6.length l6 k16 _) from by have hc := iSquareOn v A1 (n1) c1 xss 2 _ F.out.rd (by omega) (by omega); rw [HO16.out] at hc; exact hc).mono ?_
                rintro e w26 ⟨A6, c6, rfl, ho, hb⟩
                replace HB := Lib.hid (HB.out.ext hb)
                replace FI := Lib.hid (FI.out.ext hb)
                replace F := Lib.hid (F.out.ext hb)
                replace P := Lib.hid (P.out.ext hb)
                replace HQ := Lib.hid (HQ.out.ext hb)
                replace L := Lib.hid (L.out.ext hb)
                have hrl6 := ho.own.rd
                clear ho hb
                have M := Lib.hid (BoxP.new (v := v16) (hrl6) 26 rfl)
                obtain ⟨w27, hw27⟩ : ∃ W, W = w26.alloc (.cells #[.int .i64 v16, .slice A6 l6.length c6] 26) := ⟨_, rfl⟩
                obtain ⟨q5, hq5⟩ : ∃ q, q = w26.heap.size := ⟨_, rfl⟩
                rw [← hw27, ← hq5] at M
                have ew27 : Ext w26 w27 := by rw [hw27]; exact (Ext.refl _).alloc _
                have xF0 := F.out.c0
                have xF1 := F.out.c1
                have xFl := F.out.lt
                have xP0 := P.out.c0
                have xP1 := P.out.c1
                have xPl := P.out.lt
                have xL0 := L.out.c0
                have xL1 := L.out.c1
                have xLl := L.out.lt
                replace HB := Lib.hid (HB.out.ext ew27)
                replace FI := Lib.hid (FI.out.ext ew27)
                replace F := Lib.hid (F.out.ext ew27)
                replace P := Lib.hid (P.out.ext ew27)
                replace HQ := Lib.hid (HQ.out.ext ew27)
                replace L := Lib.hid (L.out.ext ew27)
                have Hw27 := Lib.hid hw27
                have Hq5 := Lib.hid hq5
                clear hw27 hq5 ew27
                go_wp2_with fail
                clear xF0 xF1 xFl xP0 xP1 xPl xL0 xL1 xLl
                rw [← Hw27.out]
                clear hrl6
                go_meet
                exact Lib.hid HQ.out.b
            · skip
              have ek15 : (k15 != 0) = true := by simpa using hk15
              have ek152 : (k15 == 0) = false := by simpa using hk15
              clear hk15
              refine (show Calls Tryz.prog 14 #[.agg #[.int .i64 v, .slice A1 n1 c1], .int .i64 2] _ (RetNC v16 l6.length l6 k16 _) from by have hc := iSquareOn v A1 (n1) c1 xss 2 _ F.out.rd (by omega) (by omega); rw [HO16.out] at hc; exact hc).mono ?_
              rintro e w26 ⟨A6, c6, rfl, ho, hb⟩
              replace HB := Lib.hid (HB.out.ext hb)
              replace FI := Lib.hid (FI.out.ext hb)
              replace F := Lib.hid (F.out.ext hb)
              replace P := Lib.hid (P.out.ext hb)
              replace HQ := Lib.hid (HQ.out.ext hb)
              replace L := Lib.hid (L.out.ext hb)
              have hrl6 := ho.own.rd
              clear ho hb
              have M := Lib.hid (BoxP.new (v := v16) (hrl6) 26 rfl)
              obtain ⟨w27, hw27⟩ : ∃ W, W = w26.alloc (.cells #[.int .i64 v16, .slice A6 l6.length c6] 26) := ⟨_, rfl⟩
              obtain ⟨q5, hq5⟩ : ∃ q, q = w26.heap.size := ⟨_, rfl⟩
              rw [← hw27, ← hq5] at M
              have ew27 : Ext w26 w27 := by rw [hw27]; exact (Ext.refl _).alloc _
              have xF0 := F.out.c0
              have xF1 := F.out.c1
              have xFl := F.out.lt
              have xP0 := P.out.c0
              have xP1 := P.out.c1
              have xPl := P.out.lt
              have xL0 := L.out.c0
              have xL1 := L.out.c1
              have xLl := L.out.lt
              replace HB := Lib.hid (HB.out.ext ew27)
              replace FI := Lib.hid (FI.out.ext ew27)
              replace F := Lib.hid (F.out.ext ew27)
              replace P := Lib.hid (P.out.ext ew27)
              replace HQ := Lib.hid (HQ.out.ext ew27)
              replace L := Lib.hid (L.out.ext ew27)
              have Hw27 := Lib.hid hw27
              have Hq5 := Lib.hid hq5
              clear hw27 hq5 ew27
              go_wp2_with fail
              clear xF0 xF1 xFl xP0 xP1 xPl xL0 xL1 xLl
              rw [← Hw27.out]
              clear hrl6
              go_meet
              exact Lib.hid HQ.out.b
          · skip
            have e13 : (k13 == 0) = false := by simpa using hk13
            have xF0 := F.out.c0
            have xF1 := F.out.c1
            have xFl := F.out.lt
            have xP0 := P.out.c0
            have xP1 := P.out.c1
            have xPl := P.out.lt
            go_wp2_with fail
            clear xF0 xF1 xFl xP0 xP1 xPl
            go_meet
            exact Lib.hid (Ext.refl _)
        case rest =>
          have hb := hcut.out
          replace HB := Lib.hid (HB.out.ext hb)
          replace FI := Lib.hid (FI.out.ext hb)
          replace F := Lib.hid (F.out.ext hb)
          replace P := Lib.hid (P.out.ext hb)
          clear hb hcut
          clear F P FI
          clear HO13 hyps
          go_wp2_with fail
          refine (drawTotalSquare_any A n c wc ((h.below HB.out.b).mono HB.out.b.size) hN).mono ?_
          rintro e w24 ⟨v, A1, n1, c1, xss, rfl, ho, hn1, ht1, hb⟩
          replace HB := Lib.hid (HB.out.ext hb)
          have hrxss := ho.rd
          clear ho hb
          have F := Lib.hid (BoxP.new (v := v) (hrxss) 26 rfl)
          obtain ⟨w25, hw25⟩ : ∃ W, W = w24.alloc (.cells #[.int .i64 v, .slice A1 n1 c1] 26) := ⟨_, rfl⟩
          obtain ⟨q1, hq1⟩ : ∃ q, q = w24.heap.size := ⟨_, rfl⟩
          rw [← hw25, ← hq1] at F
          have ew25 : Ext w24 w25 := by rw [hw25]; exact (Ext.refl _).alloc _
          replace HB := Lib.hid (HB.out.ext ew25)
          have Hw25 := Lib.hid hw25
          have Hq1 := Lib.hid hq1
          clear hw25 hq1 ew25
          go_wp2_with fail
          rw [← Hw25.out, ← Hq1.out]
          clear hrxss
          obtain ⟨o, ho⟩ : ∃ o, o = totO v xss := ⟨_, rfl⟩
          obtain ⟨qs, k18⟩ := o
          have HOT := Lib.hid ho.symm
          have hqb := totO_b v xss
          rw [HOT.out] at hqb
          obtain ⟨hq1, hqx⟩ : qs.length ≤ 1000000 ∧ ∀ p ∈ qs, p.2.length ≤ 2000 ∧ totalL p.2 ≤ 8000 := hqb
          obtain ⟨nq, hnq⟩ : ∃ k, k = qs.length := ⟨_, rfl⟩
          rw [← hnq] at hq1
          have HNQ := Lib.hid hnq
          have HQX := Lib.hid hqx
          clear ho hqx hnq
          refine (show Calls Tryz.prog 23 #[.agg #[.int .i64 v, .slice A1 n1 c1]] w25 (fun e w2 => ∃ A c, e = .returned (.tuple #[.slice A nq c, .int .i64 k18]) ∧ RdQ w2 w2.heap.size A nq c qs ∧ Below w25.heap.size w25 w2) from by have hc := iTotalSquare v A1 n1 c1 xss w25 F.out.rd (by omega) (by omega); rw [HOT.out] at hc; refine hc.mono ?_; rintro e w2 ⟨A, c, rfl, ho, hb⟩; exact ⟨A, c, by rw [HNQ.out], by rw [HNQ.out]; exact ho.rd (Nat.le_refl _), hb⟩).mono ?_
          rintro e w26 ⟨A2, c2, rfl, hr, hb⟩
          replace HB := Lib.hid (HB.out.ext hb)
          replace F := Lib.hid (F.out.ext hb)
          have QA := Lib.hid (QP.mk hr)
          clear hr hb
          have xF0 := F.out.c0
          have xF1 := F.out.c1
          have xFl := F.out.lt
          go_wp2_with fail
          clear xF0 xF1 xFl
          refine (show Calls Tryz.prog 24 #[.agg #[.int .i64 v, .slice A1 n1 c1]] w26 (fun e w2 => ∃ A c, e = .returned (.tuple #[.slice A nq c, .int .i64 k18]) ∧ RdQ w2 w2.heap.size A nq c qs ∧ Below w26.heap.size w26 w2) from by have hc := sTotalSquare v A1 n1 c1 xss w26 F.out.rd (by omega) (by omega); rw [HOT.out] at hc; refine hc.mono ?_; rintro e w2 ⟨A, c, rfl, ho, hb⟩; exact ⟨A, c, by rw [HNQ.out], by rw [HNQ.out]; exact ho.rd (Nat.le_refl _), hb⟩).mono ?_
          rintro e w27 ⟨A3, c3, rfl, hr, hb⟩
          replace HB := Lib.hid (HB.out.ext hb)
          replace F := Lib.hid (F.out.ext hb)
          replace QA := Lib.hid (QA.out.ext hb)
          have QB := Lib.hid (QP.mk hr)
          clear hr hb
          have hnk18 : (k18 != k18) = false := by simp
          have hnnq : ((nq : Int) != (nq : Int)) = false := by simp
          clear F
          go_wp2_with fail
          clear hnk18 hnnq HOT
          go_loopw [52] (fun i wr => ∃ k : Nat, k ≤ nq ∧ i = .int .i64 k ∧ Hid (Ext w27 wr)) (fun i _ => nq - (intOf i).toNat)
          case atStart => exact ⟨0, Nat.zero_le _, rfl, Lib.hid (Ext.refl _)⟩
          case round =>
            obtain ⟨k, hk, rfl, HZ⟩ := hrel
            by_cases hlt : k < nq
            · obtain ⟨g1, v1, A4, n4, c4, xs4, rfl, hg1, hp, hc1, hc2, hr1⟩ := ((QA.out.ext HZ.out).rd).at_ hlt
              obtain ⟨g2, v2, A5, n5, c5, ys5, rfl, hg2, hp2, hc3, hc4, hr2⟩ := ((QB.out.ext HZ.out).rd).at_ hlt
              obtain ⟨rfl, rfl⟩ : v1 = v2 ∧ xs4 = ys5 := by
                have := hp.out.symm.trans hp2.out
                simpa using this
              have hlt' : (k : Int) < (nq : Int) := by omega
              have hk0 : (0 : Int) ≤ (k : Int) := by omega
              have hxx := HQX.out _ (List.mem_of_getElem? hp.out)
              have C1 := fun (W : World) (hB : Below wr.heap.size wr W) => Lib.hid (show Calls Tryz.prog 9 #[.agg #[.int .i64 v1, .slice A4 n4 c4], .agg #[.int .i64 v1, .slice A5 n5 c5]] W (RetBb true W) from by
                have := poly5_any v1 v1 A4 A5 c4 c5 n4 n5 xs4 xs4 W W.heap.size W.heap.size ((hr1.below hB).mono hB.size) ((hr2.below hB).mono hB.size) (Nat.le_refl _) (Nat.le_refl _)
                  (by rw [← hr1.len]; have := hxx.1; dsimp only at this; omega) (by rw [← hr2.len]; have := hxx.1; dsimp only at this; omega) (by have := hxx.2; dsimp only at this; omega) (by have := hxx.2; dsimp only at this; omega)
                rwa [show decide (v1 = v1 ∧ xs4 = xs4) = true from by simp] at this)
              have g0 := cell_regrown hc1
              have g1' := cell_regrown hc2
              have g2' := cell_regrown hc3
              have g3 := cell_regrown hc4
              clear hr1 hr2 hp hp2 hg1 hg2 hxx
              go_wp2_with fail
              refine wp_region_quiet_below (by kernel_rfl) (by kernel_rfl) ?_
              repeat (go_big_quiet_step ((go_at_call 9; exact Calls.regrown_of ((C1 _ (below_regrown _ _ _)).out))))
              refine wpQuiet_nil ?_
              intro _ hw'
              obtain ⟨⟨dq, osq⟩, hw''⟩ := hw'
              subst hw''
              have hb3 := below_regrown wr dq osq
              obtain ⟨w3, hwq⟩ : ∃ W, W = Sort.grow (redrawn wr dq) osq := ⟨_, rfl⟩
              rw [← hwq] at hb3 ⊢
              clear hwq
              have X3 := Lib.hid (HZ.out.trans hb3)
              clear g0 g1' g2' g3 hc1 hc2 hc3 hc4 hb3
              go_wp2_with fail
              go_roundw
              case rel => exact ⟨k + 1, by omega, by go_num, X3⟩
              case measure => simp [intOf]; omega
            · obtain rfl : k = nq := by omega
              go_wp2_with fail
              rw [HR.out]
              exact ⟨rfl, HB.out.b.trans HZ.out⟩
end Go.Proofs.YtoodhbafleemjaaGreat
