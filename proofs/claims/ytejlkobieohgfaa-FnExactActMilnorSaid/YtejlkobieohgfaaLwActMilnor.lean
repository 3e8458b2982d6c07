/- The law FnExactActMilnor, over whatever both sides answer alike. -/
import Derived.Test.YtejlkobieohgfaaMilI
import Derived.Test.YtejlkobieohgfaaLawK
namespace Go.Proofs.Ytejlkobieohgfaa
open Go.RowKit
set_option linter.unusedVariables false

set_option maxRecDepth 100000 in
set_option maxHeartbeats 4000000 in
theorem coreActMilnor (A0 : Option Addr) (n0 c0 : Nat) (xss0 : List (List Int)) (a1 : Int) (A1 : Option Addr) (n1 c1 : Nat) (xss1 : List (List Int)) (v : Int) (l : Nat) (L : List (List Int)) (k : Int) (hl : l ≤ 1000000000) (ht : totalL L ≤ 1000000000) (w : World) (h0 : RdL w w.heap.size A0 n0 c0 xss0) (e0 : ∀ x ∈ xss0, x.length ≤ 9223372036854775807) (h1 : RdL w w.heap.size A1 n1 c1 xss1) (e1 : ∀ x ∈ xss1, x.length ≤ 9223372036854775807) (hs : (n0 + totalL xss0) + (n1 + totalL xss1) ≤ 1048576)
    (hS : ∀ (A0 : Option Addr) (c0 : Nat) (A1 : Option Addr) (c1 : Nat) (w : World), RdL w w.heap.size A0 n0 c0 xss0 → RdL w w.heap.size A1 n1 c1 xss1 → Calls Try.prog 45 #[.agg #[.slice A0 n0 c0], .agg #[.int .i64 a1, .slice A1 n1 c1]] w (RetNC v l L k w))
    (hI : ∀ (A0 : Option Addr) (c0 : Nat) (A1 : Option Addr) (c1 : Nat) (w : World), RdL w w.heap.size A0 n0 c0 xss0 → RdL w w.heap.size A1 n1 c1 xss1 → Calls Try.prog 47 #[.agg #[.slice A0 n0 c0], .agg #[.int .i64 a1, .slice A1 n1 c1]] w (RetNC v l L k w)) :
    Calls Try.prog 11 #[.agg #[.slice A0 n0 c0], .agg #[.int .i64 a1, .slice A1 n1 c1]] w fun e w' => e = .returned (.bool true) ∧ Below w.heap.size w w' := by
  obtain ⟨w0, hw0⟩ : ∃ w0, w0 = (w.alloc (.cells #[.slice A0 n0 c0] 65)).alloc (.cells #[.int .i64 a1, .slice A1 n1 c1] 39) := ⟨_, rfl⟩
  obtain ⟨b, hbe⟩ : ∃ b, b = w.heap.size := ⟨_, rfl⟩
  have x0 : Ext w w0 := by rw [hw0]; exact ((Ext.refl w).alloc _).alloc _
  have hz0 : w0.heap.size = b + 1 + 1 := by rw [hw0, hbe]; simp
  have IB0 : It (b) (b + 1) (fun V => V.heap[b]? = some (.cells #[.slice A0 n0 c0] 65 (0, 0))) w0 := by
    rw [hw0]
    have h1 := var_new (W := w.alloc (.cells #[.slice A0 n0 c0] 65)) (b := b) rfl (by subst hbe; simp)
    exact h1.ext ((Ext.refl _).alloc _)
  have IB1 : It (b + 1) (b + 1 + 1) (fun V => V.heap[b + 1]? = some (.cells #[.int .i64 a1, .slice A1 n1 c1] 39 (0, 0))) w0 := by
    rw [hw0]
    have h1 := var_new (W := (w.alloc (.cells #[.slice A0 n0 c0] 65)).alloc (.cells #[.int .i64 a1, .slice A1 n1 c1] 39)) (b := b + 1) rfl (by subst hbe; simp)
    exact h1
  have ID0 : It 0 b (fun V => RdL V b A0 n0 c0 xss0) w0 := by rw [hbe]; exact (It.rdL h0 (Nat.le_refl _)).ext x0
  have HL0 := Lib.hid h0.len; clear h0
  have E0 := Lib.hid e0; clear e0
  have ID1 : It 0 b (fun V => RdL V b A1 n1 c1 xss1) w0 := by rw [hbe]; exact (It.rdL h1 (Nat.le_refl _)).ext x0
  have HL1 := Lib.hid h1.len; clear h1
  have E1 := Lib.hid e1; clear e1
  have IF : It 0 b (fun V => Below b w V) w0 := by rw [hbe]; exact It.fin x0 (Nat.le_refl _)
  have HS := Lib.hid hS; clear hS
  have HI := Lib.hid hI; clear hI
  have Hw := Lib.hid hw0; clear hw0
  have Hb := Lib.hid hbe; clear hbe x0
  have HLt := Lib.hid ht; clear ht
  replace hz0 : b + 1 + 1 ≤ w0.heap.size := Nat.le_of_eq hz0.symm
  go_enter Try.func11, Try.ntmps11
  go_wp2_with fail
  rw [← Hw.out, ← Hb.out]
  have kb0 := IB0.cell (i := 0) rfl
  have kb1 := IB1.cell (i := 0) rfl
  have kb1z := IB1.cell (i := 1) rfl
  refine (szMilnor_any A0 c0 n0 b xss0 _ (1048576) ID0.holds ID0.le (by omega) (by omega) (by omega) E0.out).mono ?_
  rintro e w1 ⟨rfl, hb⟩
  rw [show szR (1048576) (n0 + totalL xss0) = 1048576 - ((n0 + totalL xss0 : Nat) : Int) from by unfold szR; rw [if_neg (by omega)]]
  clear kb0 kb1 kb1z
  have hz1 := hb.size
  replace IB0 := IB0.ext hb
  replace IB1 := IB1.ext hb
  replace ID0 := ID0.ext hb
  replace ID1 := ID1.ext hb
  replace IF := IF.ext hb
  clear hb
  have kb0 := IB0.cell (i := 0) rfl
  have kb1 := IB1.cell (i := 0) rfl
  have kb1z := IB1.cell (i := 1) rfl
  go_wp2_with fail
  refine (szPoly_any a1 A1 c1 n1 b xss1 _ (1048576 - ((n0 + totalL xss0 : Nat) : Int)) ID1.holds ID1.le (by omega) (by omega) (by omega) E1.out).mono ?_
  rintro e w2 ⟨rfl, hb⟩
  rw [show szR (1048576 - ((n0 + totalL xss0 : Nat) : Int)) (n1 + totalL xss1) = 1048576 - ((n0 + totalL xss0 : Nat) : Int) - ((n1 + totalL xss1 : Nat) : Int) from by unfold szR; rw [if_neg (by omega)]]
  clear kb0 kb1 kb1z
  have hz2 := hb.size
  replace IB0 := IB0.ext hb
  replace IB1 := IB1.ext hb
  replace ID0 := ID0.ext hb
  replace ID1 := ID1.ext hb
  replace IF := IF.ext hb
  clear hb
  have kb0 := IB0.cell (i := 0) rfl
  have kb1 := IB1.cell (i := 0) rfl
  have kb1z := IB1.cell (i := 1) rfl
  go_upto_region 8 with fail
  go_cut [6, 7] (fun p q wc => ∃ (b5 : Nat) (A5 : Option Addr) (c5 : Nat), p = .pointer (some ⟨b5, 0, none⟩) ∧ q = .int .i64 k ∧ Hid (wc.heap[b5]? = some (.cells #[.int .i64 v, .slice A5 l c5] 28 (0, 0)) ∧ RdL wc wc.heap.size A5 l c5 L ∧ Ext w2 wc))
  case first =>
    have Xd := Lib.hid (Ext.drew (Ext.refl w2))
    have z0 : b < w2.drew.heap.size := by show b < w2.heap.size; omega
    have z1 : b + 1 < w2.drew.heap.size := by show b + 1 < w2.heap.size; omega
    have HD0 := Lib.hid (fun (V : World) (x : Ext w2 V) => toMilnor_any A0 c0 n0 xss0 V ((ID0.ext x).holds.mono (ID0.ext x).le) (by omega) (by omega))
    have HD1 := Lib.hid (fun (V : World) (x : Ext w2 V) => toPoly_any a1 A1 c1 n1 xss1 V ((ID1.ext x).holds.mono (ID1.ext x).le) (by omega) (by omega))
    go_region_held3 (fun w' => w'.cell? ⟨b, 0, none⟩ = some (.slice A0 n0 c0) ∧ w'.cell? ⟨b + 1, 0, none⟩ = some (.int .i64 a1) ∧ w'.cell? ⟨b + 1, 1, none⟩ = some (.slice A1 n1 c1)) (first | (refine ⟨?_, ?_, ?_⟩ <;> (first | assumption | exact old_at (by assumption) (by assumption) | (refine (World.cell?_setCell_far _ _ _ _ (Nat.ne_of_gt (by assumption))).trans ?_; assumption) | (refine (World.cell?_setCell_far _ _ _ _ (Nat.ne_of_gt (by assumption))).trans ((World.cell?_setCell_far _ _ _ _ (Nat.ne_of_gt (by assumption))).trans ?_); assumption))) | go_keep)
      (first
        | (go_at_call_of 46 A0
           refine (HD0.out _ (by first | exact Xd.out | exact Xd.out.alloc _)).mono ?_
           rintro e u0 ⟨A3, c3, rfl, ho3, hb3⟩
           have kb0p := bcell hb3 (o := 0) (v := .slice A0 n0 c0) (by first | exact z0 | exact lt_alloc_of z0) (by first | assumption | exact old_at z0 (by assumption))
           have zp0 : b < _ := Nat.lt_of_lt_of_le (by first | exact z0 | exact lt_alloc_of z0) hb3.size
           have kb1p := bcell hb3 (o := 0) (v := .int .i64 a1) (by first | exact z1 | exact lt_alloc_of z1) (by first | assumption | exact old_at z1 (by assumption))
           have kb1zp := bcell hb3 (o := 1) (v := .slice A1 n1 c1) (by first | exact z1 | exact lt_alloc_of z1) (by first | assumption | exact old_at z1 (by assumption))
           have zp1 : b + 1 < _ := Nat.lt_of_lt_of_le (by first | exact z1 | exact lt_alloc_of z1) hb3.size
           try (have kna0 := bcell hb3 (b := w2.heap.size) (o := 0) (v := .int .i64 0) (by simp) (new_at rfl rfl); have fna0 := bfree hb3 (b := w2.heap.size) (o := 0) (by simp) (new_free rfl); have kna1 := bcell hb3 (b := w2.heap.size) (o := 1) (v := .slice none 0 0) (by simp) (new_at rfl rfl); have fna1 := bfree hb3 (b := w2.heap.size) (o := 1) (by simp) (new_free rfl); have lna : w2.heap.size < _ := Nat.lt_of_lt_of_le (by simp) hb3.size)
           have N3 := Lib.hid (And.intro ho3.own.rd hb3)
           have X3 : Hid (Ext w2 u0) := Lib.hid (by first | exact Xd.out.trans hb3 | exact (Xd.out.alloc _).trans hb3)
           clear ho3 hb3)
        | (go_at_call_of 20 A1
           refine (HD1.out _ (by first | exact X3.out | exact X3.out.alloc _)).mono ?_
           rintro e u1 ⟨A4, c4, rfl, ho4, hb4⟩
           have kb0q := bcell hb4 (o := 0) (v := .slice A0 n0 c0) (by first | exact zp0 | exact lt_alloc_of zp0) (by first | assumption | exact old_at zp0 (by assumption))
           have zq0 : b < _ := Nat.lt_of_lt_of_le (by first | exact zp0 | exact lt_alloc_of zp0) hb4.size
           have kb1q := bcell hb4 (o := 0) (v := .int .i64 a1) (by first | exact zp1 | exact lt_alloc_of zp1) (by first | assumption | exact old_at zp1 (by assumption))
           have kb1zq := bcell hb4 (o := 1) (v := .slice A1 n1 c1) (by first | exact zp1 | exact lt_alloc_of zp1) (by first | assumption | exact old_at zp1 (by assumption))
           have zq1 : b + 1 < _ := Nat.lt_of_lt_of_le (by first | exact zp1 | exact lt_alloc_of zp1) hb4.size
           try (have knb0 := bcell hb4 (b := u0.heap.size) (o := 0) (v := .int .i64 0) (by simp) (new_at rfl rfl); have fnb0 := bfree hb4 (b := u0.heap.size) (o := 0) (by simp) (new_free rfl); have knb1 := bcell hb4 (b := u0.heap.size) (o := 1) (v := .slice none 0 0) (by simp) (new_at rfl rfl); have fnb1 := bfree hb4 (b := u0.heap.size) (o := 1) (by simp) (new_free rfl); have lnb : u0.heap.size < _ := Nat.lt_of_lt_of_le (by simp) hb4.size)
           try (have knc0 := bcell hb4 lna kna0; have fnc0 := bfree hb4 lna fna0; have knc1 := bcell hb4 lna kna1; have fnc1 := bfree hb4 lna fna1; have lnc := Nat.lt_of_lt_of_le lna hb4.size)
           have N4 := Lib.hid (And.intro ho4.own.rd hb4)
           have X4 : Hid (Ext w2 u1) := Lib.hid (by first | exact X3.out.trans hb4 | exact (X3.out.alloc _).trans hb4)
           have R3 : Hid (RdL u1 u1.heap.size A3 n0 c3 xss0) := Lib.hid (by first | exact (N3.out.1.below hb4).mono hb4.size | exact ((N3.out.1.alloc _).below hb4).mono hb4.size)
           clear ho4 hb4)
        | (go_at_call 45
           refine (HS.out _ _ _ _ _ (by first | exact R3.out | exact R3.out.alloc _) (by first | exact N4.out.1 | exact N4.out.1.alloc _)).mono ?_
           rintro e u2 ⟨A5, c5, rfl, ho5, hb5⟩
           have kb0r := bcell hb5 (o := 0) (v := .slice A0 n0 c0) (by first | exact zq0 | exact lt_alloc_of zq0) (by first | assumption | exact old_at zq0 (by assumption))
           have zr0 : b < _ := Nat.lt_of_lt_of_le (by first | exact zq0 | exact lt_alloc_of zq0) hb5.size
           have kb1r := bcell hb5 (o := 0) (v := .int .i64 a1) (by first | exact zq1 | exact lt_alloc_of zq1) (by first | assumption | exact old_at zq1 (by assumption))
           have kb1zr := bcell hb5 (o := 1) (v := .slice A1 n1 c1) (by first | exact zq1 | exact lt_alloc_of zq1) (by first | assumption | exact old_at zq1 (by assumption))
           have zr1 : b + 1 < _ := Nat.lt_of_lt_of_le (by first | exact zq1 | exact lt_alloc_of zq1) hb5.size
           try (have knd0 := bcell hb5 (b := u1.heap.size) (o := 0) (v := .int .i64 0) (by simp) (new_at rfl rfl); have fnd0 := bfree hb5 (b := u1.heap.size) (o := 0) (by simp) (new_free rfl); have knd1 := bcell hb5 (b := u1.heap.size) (o := 1) (v := .slice none 0 0) (by simp) (new_at rfl rfl); have fnd1 := bfree hb5 (b := u1.heap.size) (o := 1) (by simp) (new_free rfl); have lnd : u1.heap.size < _ := Nat.lt_of_lt_of_le (by simp) hb5.size)
           try (have kne0 := bcell hb5 lnb knb0; have fne0 := bfree hb5 lnb fnb0; have kne1 := bcell hb5 lnb knb1; have fne1 := bfree hb5 lnb fnb1; have lne := Nat.lt_of_lt_of_le lnb hb5.size)
           try (have knf0 := bcell hb5 lnc knc0; have fnf0 := bfree hb5 lnc fnc0; have knf1 := bcell hb5 lnc knc1; have fnf1 := bfree hb5 lnc fnc1; have lnf := Nat.lt_of_lt_of_le lnc hb5.size)
           have N5 := Lib.hid (And.intro ho5 hb5)
           clear ho5 hb5))
    all_goals
      go_wp2_with fail
      go_meet
      first
        | exact ⟨_, A5, c5, rfl, rfl, Lib.hid (var_set (cs := #[.int .i64 0, .slice none 0 0]) (cs' := #[.int .i64 v, .slice A5 l c5]) (Ext.refl _) (Ext.trans (Ext.drew (Ext.refl _)) (Ext.trans N3.out.2 N4.out.2)) N5.out.2 N5.out.1 (setCell_off2 _ _) (fun h => setCell_at _ (setCell_at _ h)))⟩
        | exact ⟨_, A5, c5, rfl, rfl, Lib.hid (var_set (cs := #[.int .i64 0, .slice none 0 0]) (cs' := #[.int .i64 v, .slice A5 l c5]) X3.out N4.out.2 N5.out.2 N5.out.1 (setCell_off2 _ _) (fun h => setCell_at _ (setCell_at _ h)))⟩
        | exact ⟨_, A5, c5, rfl, rfl, Lib.hid (var_set (cs := #[.int .i64 0, .slice none 0 0]) (cs' := #[.int .i64 v, .slice A5 l c5]) X4.out (Ext.refl _) N5.out.2 N5.out.1 (setCell_off2 _ _) (fun h => setCell_at _ (setCell_at _ h)))⟩
        | exact ⟨_, A5, c5, rfl, rfl, Lib.hid ⟨heap_alloc_new _ _, N5.out.1.own.rd.alloc _, (X4.out.trans N5.out.2).alloc _⟩⟩
  case rest =>
    obtain ⟨bS, AS, cS, rfl, rfl, hv⟩ := hcut
    obtain ⟨hv1, hv2, hb⟩ := hv.out
    obtain ⟨w3, hwe⟩ : ∃ V : World, V = wc := ⟨_, rfl⟩
    subst hwe
    clear kb0 kb1 kb1z
    have hz3 := hb.size
    replace IB0 := IB0.ext hb
    replace IB1 := IB1.ext hb
    replace ID0 := ID0.ext hb
    replace ID1 := ID1.ext hb
    replace IF := IF.ext hb
    have IVS := It.var hv1
    have IRS := It.rdL hv2 (Nat.le_refl _)
    obtain ⟨sS, hsS⟩ : ∃ s, s = w3.heap.size := ⟨_, rfl⟩
    rw [← hsS] at IRS
    replace hsS := Nat.le_of_eq hsS
    have hvS := IVS.le
    clear hv hv1 hv2 hb
    have kb0 := IB0.cell (i := 0) rfl
    go_wp2_with fail
    refine (toMilnor_any A0 c0 n0 xss0 _ (ID0.holds.mono ID0.le) (by omega) (by omega)).mono ?_
    rintro e w4 ⟨A0x, c0x, rfl, ho, hb⟩
    obtain ⟨l0x, hlx⟩ : ∃ s, s = w3.heap.size := ⟨_, rfl⟩
    obtain ⟨m0x, hmx⟩ : ∃ s, s = w4.heap.size := ⟨_, rfl⟩
    rw [← hlx, ← hmx] at ho
    clear kb0
    have hz4 := hb.size
    replace IB0 := IB0.ext hb
    replace IB1 := IB1.ext hb
    replace ID0 := ID0.ext hb
    replace ID1 := ID1.ext hb
    replace IF := IF.ext hb
    replace IVS := IVS.ext hb
    replace IRS := IRS.ext hb
    have IO0 := It.ownM ho (Nat.le_of_eq hmx)
    have hlx0 := Nat.le_of_eq hlx
    have hly0 := Nat.le_of_eq hlx.symm
    have hmx0 := Nat.le_of_eq hmx
    have hmy0 := Nat.le_of_eq hmx.symm
    clear ho hb hlx hmx
    have kb1 := IB1.cell (i := 0) rfl
    have kb1z := IB1.cell (i := 1) rfl
    have zkb1 := Nat.lt_of_succ_le IB1.le
    go_wp2_with fail
    obtain ⟨w5, hw⟩ : ∃ V, V = w4.alloc (.cells #[.slice A0x n0 c0x] 24) := ⟨_, rfl⟩
    obtain ⟨bx0, hbt⟩ : ∃ B, B = w4.heap.size := ⟨_, rfl⟩
    rw [← hw, ← hbt]
    have IVx0 := var_new hw hbt
    have hb := ext_new hw
    have hbtx0 := Nat.le_of_eq hbt
    have hbux0 := Nat.le_of_eq hbt.symm
    have hvx0 := IVx0.le
    clear hw hbt
    clear kb1 kb1z zkb1
    have hz5 := hb.size
    replace IB0 := IB0.ext hb
    replace IB1 := IB1.ext hb
    replace ID0 := ID0.ext hb
    replace ID1 := ID1.ext hb
    replace IF := IF.ext hb
    replace IVS := IVS.ext hb
    replace IRS := IRS.ext hb
    replace IO0 := IO0.ext hb
    clear hb
    refine (toPoly_any a1 A1 c1 n1 xss1 _ (ID1.holds.mono ID1.le) (by omega) (by omega)).mono ?_
    rintro e w6 ⟨A1x, c1x, rfl, ho, hb⟩
    obtain ⟨l1x, hlx⟩ : ∃ s, s = w5.heap.size := ⟨_, rfl⟩
    obtain ⟨m1x, hmx⟩ : ∃ s, s = w6.heap.size := ⟨_, rfl⟩
    rw [← hlx, ← hmx] at ho
    have hz6 := hb.size
    replace IB0 := IB0.ext hb
    replace IB1 := IB1.ext hb
    replace ID0 := ID0.ext hb
    replace ID1 := ID1.ext hb
    replace IF := IF.ext hb
    replace IVS := IVS.ext hb
    replace IRS := IRS.ext hb
    replace IO0 := IO0.ext hb
    replace IVx0 := IVx0.ext hb
    have IO1 := It.ownM ho (Nat.le_of_eq hmx)
    have hlx1 := Nat.le_of_eq hlx
    have hly1 := Nat.le_of_eq hlx.symm
    have hmx1 := Nat.le_of_eq hmx
    have hmy1 := Nat.le_of_eq hmx.symm
    clear ho hb hlx hmx
    have kx0 := IVx0.cell (i := 0) rfl
    have zkx0 := Nat.lt_of_succ_le IVx0.le
    go_wp2_with fail
    obtain ⟨w7, hw⟩ : ∃ V, V = w6.alloc (.cells #[.int .i64 a1, .slice A1x n1 c1x] 28) := ⟨_, rfl⟩
    obtain ⟨bx1, hbt⟩ : ∃ B, B = w6.heap.size := ⟨_, rfl⟩
    rw [← hw, ← hbt]
    have IVx1 := var_new hw hbt
    have hb := ext_new hw
    have hbtx1 := Nat.le_of_eq hbt
    have hbux1 := Nat.le_of_eq hbt.symm
    have hvx1 := IVx1.le
    clear hw hbt
    clear kx0 zkx0
    have hz7 := hb.size
    replace IB0 := IB0.ext hb
    replace IB1 := IB1.ext hb
    replace ID0 := ID0.ext hb
    replace ID1 := ID1.ext hb
    replace IF := IF.ext hb
    replace IVS := IVS.ext hb
    replace IRS := IRS.ext hb
    replace IO0 := IO0.ext hb
    replace IVx0 := IVx0.ext hb
    replace IO1 := IO1.ext hb
    clear hb
    refine (HI.out _ _ _ _ _ (IO0.holds.own.rd) (IO1.holds.own.rd)).mono ?_
    rintro e w8 ⟨AG, cG, rfl, ho, hb⟩
    skip
    obtain ⟨lG, hlG⟩ : ∃ s, s = w7.heap.size := ⟨_, rfl⟩
    obtain ⟨mG, hmG⟩ : ∃ s, s = w8.heap.size := ⟨_, rfl⟩
    rw [← hlG, ← hmG] at ho
    have hz8 := hb.size
    replace IB0 := IB0.ext hb
    replace IB1 := IB1.ext hb
    replace ID0 := ID0.ext hb
    replace ID1 := ID1.ext hb
    replace IF := IF.ext hb
    replace IVS := IVS.ext hb
    replace IRS := IRS.ext hb
    replace IO0 := IO0.ext hb
    replace IVx0 := IVx0.ext hb
    replace IO1 := IO1.ext hb
    replace IVx1 := IVx1.ext hb
    have IOG := It.ownM ho (Nat.le_of_eq hmG)
    have hlGx := Nat.le_of_eq hlG
    have hlGy := Nat.le_of_eq hlG.symm
    have hmGx := Nat.le_of_eq hmG
    have hmGy := Nat.le_of_eq hmG.symm
    clear ho hb hlG hmG
    have ks := IVS.cell (i := 0) rfl
    have ksz := IVS.cell (i := 1) rfl
    have zks := Nat.lt_of_succ_le IVS.le
    go_wp2_with fail
    obtain ⟨w9, hw⟩ : ∃ V, V = w8.alloc (.cells #[.int .i64 v, .slice AG l cG] 28) := ⟨_, rfl⟩
    obtain ⟨bG, hbt⟩ : ∃ B, B = w8.heap.size := ⟨_, rfl⟩
    rw [← hw, ← hbt]
    have IVG := var_new hw hbt
    have hb := ext_new hw
    have hbtG := Nat.le_of_eq hbt
    have hbuG := Nat.le_of_eq hbt.symm
    have hvG := IVG.le
    clear hw hbt
    clear ks ksz zks
    have hz9 := hb.size
    replace IB0 := IB0.ext hb
    replace IB1 := IB1.ext hb
    replace ID0 := ID0.ext hb
    replace ID1 := ID1.ext hb
    replace IF := IF.ext hb
    replace IVS := IVS.ext hb
    replace IRS := IRS.ext hb
    replace IO0 := IO0.ext hb
    replace IVx0 := IVx0.ext hb
    replace IO1 := IO1.ext hb
    replace IVx1 := IVx1.ext hb
    replace IOG := IOG.ext hb
    clear hb
    have hnk : (k != k) = false := by simp
    refine (eqPoly_any v v AG AS cG cS l l L L _ _ _ IOG.holds.own.rd IRS.holds (Nat.le_refl _) IRS.le (by omega) (by omega) (by have := HLt.out; omega) (by have := HLt.out; omega)).mono ?_
    rintro e w10 ⟨rfl, hb⟩
    rw [show decide (v = v ∧ L = L) = true from by simp]
    have hz10 := hb.size
    replace IB0 := IB0.ext hb
    replace IB1 := IB1.ext hb
    replace ID0 := ID0.ext hb
    replace ID1 := ID1.ext hb
    replace IF := IF.ext hb
    replace IVS := IVS.ext hb
    replace IRS := IRS.ext hb
    replace IO0 := IO0.ext hb
    replace IVx0 := IVx0.ext hb
    replace IO1 := IO1.ext hb
    replace IVx1 := IVx1.ext hb
    replace IOG := IOG.ext hb
    replace IVG := IVG.ext hb
    clear hb
    have kx0 := IVx0.cell (i := 0) rfl
    have kb0 := IB0.cell (i := 0) rfl
    go_wp2_with fail
    have zb : b < w10.drew.heap.size := IB0.le
    have zx : bx0 < w10.drew.heap.size := IVx0.le
    have Ed := Lib.hid (Ext.drew (Ext.refl w10))
    have Xd := Lib.hid (IO0.ext Ed.out)
    have Dd := Lib.hid (ID0.ext Ed.out)
    go_region_held3 (fun w' => w'.cell? ⟨bx0, 0, none⟩ = some (.slice A0x n0 c0x) ∧ w'.cell? ⟨b, 0, none⟩ = some (.slice A0 n0 c0)) (first | exact ⟨kx0, kb0⟩ | exact ⟨kx0p, kb0p⟩ | exact ⟨kx0q, kb0q⟩)
      (first
        | (go_at_call 46
           refine (toMilnor_any A0 c0 n0 xss0 _ (Dd.out.holds.mono Dd.out.le) (by omega) (by omega)).mono ?_
           rintro e u0 ⟨A0y, c0y, rfl, ho, hb⟩
           have kx0p := bcell hb zx kx0
           have kb0p := bcell hb zb kb0
           have zbp := Nat.lt_of_lt_of_le zb hb.size
           have zxp := Nat.lt_of_lt_of_le zx hb.size
           have Ry := Lib.hid ho.own.rd
           have Xp := Lib.hid (Xd.out.ext hb)
           have Ep := Lib.hid (Ed.out.trans hb)
           clear ho hb)
        | (go_at_call 48
           refine (eqMilnor_any A0x A0y c0x c0y n0 n0 xss0 xss0 _ _ _ Xp.out.holds.own.rd Ry.out (Nat.le_refl _) (Nat.le_refl _) (by omega) (by omega) (by omega) (by omega)).mono ?_
           rintro e w11 ⟨rfl, hb⟩
           have kx0q := bcell hb zxp kx0p
           have kb0q := bcell hb zbp kb0p
           have Eq := Lib.hid (Ep.out.trans hb)
           clear hb
           rw [decide_eq_true (rfl : xss0 = xss0)]))
    have hb := Eq.out
    clear kx0 kb0 kx0p kb0p kx0q kb0q zb zx zbp zxp Xd Dd Ed Ry Xp Ep Eq
    have hz11 := hb.size
    replace IB0 := IB0.ext hb
    replace IB1 := IB1.ext hb
    replace ID0 := ID0.ext hb
    replace ID1 := ID1.ext hb
    replace IF := IF.ext hb
    replace IVS := IVS.ext hb
    replace IRS := IRS.ext hb
    replace IO0 := IO0.ext hb
    replace IVx0 := IVx0.ext hb
    replace IO1 := IO1.ext hb
    replace IVx1 := IVx1.ext hb
    replace IOG := IOG.ext hb
    replace IVG := IVG.ext hb
    clear hb
    have kx1 := IVx1.cell (i := 0) rfl
    have kx1z := IVx1.cell (i := 1) rfl
    have kb1 := IB1.cell (i := 0) rfl
    have kb1z := IB1.cell (i := 1) rfl
    go_wp2_with fail
    have zb : b + 1 < w11.drew.heap.size := IB1.le
    have zx : bx1 < w11.drew.heap.size := IVx1.le
    have Ed := Lib.hid (Ext.drew (Ext.refl w11))
    have Xd := Lib.hid (IO1.ext Ed.out)
    have Dd := Lib.hid (ID1.ext Ed.out)
    go_region_held3 (fun w' => w'.cell? ⟨bx1, 0, none⟩ = some (.int .i64 a1) ∧ w'.cell? ⟨bx1, 1, none⟩ = some (.slice A1x n1 c1x) ∧ w'.cell? ⟨b + 1, 0, none⟩ = some (.int .i64 a1) ∧ w'.cell? ⟨b + 1, 1, none⟩ = some (.slice A1 n1 c1)) (first | exact ⟨kx1, kx1z, kb1, kb1z⟩ | exact ⟨kx1p, kx1zp, kb1p, kb1zp⟩ | exact ⟨kx1q, kx1zq, kb1q, kb1zq⟩)
      (first
        | (go_at_call 20
           refine (toPoly_any a1 A1 c1 n1 xss1 _ (Dd.out.holds.mono Dd.out.le) (by omega) (by omega)).mono ?_
           rintro e u0 ⟨A1y, c1y, rfl, ho, hb⟩
           have kx1p := bcell hb zx kx1
           have kx1zp := bcell hb zx kx1z
           have kb1p := bcell hb zb kb1
           have kb1zp := bcell hb zb kb1z
           have zbp := Nat.lt_of_lt_of_le zb hb.size
           have zxp := Nat.lt_of_lt_of_le zx hb.size
           have Ry := Lib.hid ho.own.rd
           have Xp := Lib.hid (Xd.out.ext hb)
           have Ep := Lib.hid (Ed.out.trans hb)
           clear ho hb)
        | (go_at_call 22
           refine (eqPoly_any a1 a1 A1x A1y c1x c1y n1 n1 xss1 xss1 _ _ _ Xp.out.holds.own.rd Ry.out (Nat.le_refl _) (Nat.le_refl _) (by omega) (by omega) (by omega) (by omega)).mono ?_
           rintro e w12 ⟨rfl, hb⟩
           have kx1q := bcell hb zxp kx1p
           have kx1zq := bcell hb zxp kx1zp
           have kb1q := bcell hb zbp kb1p
           have kb1zq := bcell hb zbp kb1zp
           have Eq := Lib.hid (Ep.out.trans hb)
           clear hb
           rw [show decide (a1 = a1 ∧ xss1 = xss1) = true from by simp]))
    have hb := Eq.out
    clear kx1 kx1z kb1 kb1z kx1p kx1zp kb1p kb1zp kx1q kx1zq kb1q kb1zq zb zx zbp zxp Xd Dd Ed Ry Xp Ep Eq
    have hz12 := hb.size
    replace IB0 := IB0.ext hb
    replace IB1 := IB1.ext hb
    replace ID0 := ID0.ext hb
    replace ID1 := ID1.ext hb
    replace IF := IF.ext hb
    replace IVS := IVS.ext hb
    replace IRS := IRS.ext hb
    replace IO0 := IO0.ext hb
    replace IVx0 := IVx0.ext hb
    replace IO1 := IO1.ext hb
    replace IVx1 := IVx1.ext hb
    replace IOG := IOG.ext hb
    replace IVG := IVG.ext hb
    clear hb
    have kx0 := IVx0.cell (i := 0) rfl
    go_wp2_with fail
    refine (markMilnor_any A0x c0x n0 xss0 _ _ _ (1) IO0.holds (by omega) (by omega) (by omega) (by omega)).mono ?_
    rintro e w13 ⟨rfl, ho, hm⟩
    clear ho
    clear kx0
    have hz13 := hm.size
    replace IB0 := IB0.mid hm (by omega)
    replace IB1 := IB1.mid hm (by omega)
    replace ID0 := ID0.mid hm (by omega)
    replace ID1 := ID1.mid hm (by omega)
    replace IF := IF.mid hm (by omega)
    replace IVS := IVS.mid hm (by omega)
    replace IRS := IRS.mid hm (by omega)
    replace IO1 := IO1.mid hm (by omega)
    replace IVx1 := IVx1.mid hm (by omega)
    replace IOG := IOG.mid hm (by omega)
    replace IVG := IVG.mid hm (by omega)
    clear hm IO0 IVx0
    have kx1 := IVx1.cell (i := 0) rfl
    have kx1z := IVx1.cell (i := 1) rfl
    go_wp2_with fail
    refine (markPoly_any a1 A1x c1x n1 xss1 _ _ _ (1 + (totalL xss0 : Int)) IO1.holds (by omega) (by omega) (by omega) (by omega)).mono ?_
    rintro e w14 ⟨rfl, ho, hm⟩
    clear ho
    clear kx1 kx1z
    have hz14 := hm.size
    replace IB0 := IB0.mid hm (by omega)
    replace IB1 := IB1.mid hm (by omega)
    replace ID0 := ID0.mid hm (by omega)
    replace ID1 := ID1.mid hm (by omega)
    replace IF := IF.mid hm (by omega)
    replace IVS := IVS.mid hm (by omega)
    replace IRS := IRS.mid hm (by omega)
    replace IOG := IOG.mid hm (by omega)
    replace IVG := IVG.mid hm (by omega)
    clear hm IO1 IVx1
    have kg := IVG.cell (i := 0) rfl
    have kgz := IVG.cell (i := 1) rfl
    have ks := IVS.cell (i := 0) rfl
    have ksz := IVS.cell (i := 1) rfl
    go_wp2_with fail
    refine (eqPoly_any v v AG AS cG cS l l L L _ _ _ IOG.holds.own.rd IRS.holds (Nat.le_refl _) IRS.le (by omega) (by omega) (by have := HLt.out; omega) (by have := HLt.out; omega)).mono ?_
    rintro e w15 ⟨rfl, hb⟩
    rw [show decide (v = v ∧ L = L) = true from by simp]
    clear kg kgz ks ksz
    have hz15 := hb.size
    replace IB0 := IB0.ext hb
    replace IB1 := IB1.ext hb
    replace ID0 := ID0.ext hb
    replace ID1 := ID1.ext hb
    replace IF := IF.ext hb
    replace IVS := IVS.ext hb
    replace IRS := IRS.ext hb
    replace IOG := IOG.ext hb
    replace IVG := IVG.ext hb
    clear hb
    have kg := IVG.cell (i := 0) rfl
    have kgz := IVG.cell (i := 1) rfl
    go_wp2_with fail
    refine (markPoly_any v AG cG l L _ _ _ 1 IOG.holds (by omega) (by have := HLt.out; omega) (by omega) (by omega)).mono ?_
    rintro e w16 ⟨rfl, ho, hm⟩
    clear kg kgz
    have hz16 := hm.size
    replace IB0 := IB0.mid hm (by omega)
    replace IB1 := IB1.mid hm (by omega)
    replace ID0 := ID0.mid hm (by omega)
    replace ID1 := ID1.mid hm (by omega)
    replace IF := IF.mid hm (by omega)
    replace IVS := IVS.mid hm (by omega)
    replace IRS := IRS.mid hm (by omega)
    replace IVG := IVG.mid hm (by omega)
    have hmz : mG ≤ w16.heap.size := Nat.le_trans IOG.le hm.size
    replace IOG := It.ownM ho hmz
    clear hm ho hmz
    have kg := IVG.cell (i := 0) rfl
    have kgz := IVG.cell (i := 1) rfl
    go_wp2_with fail
    refine (heldPoly_any v AG cG l L _ _ 1 IOG.holds.own.rd (Nat.le_refl _) (by omega) (by have := HLt.out; omega) (by omega) (by omega)).mono ?_
    rintro e w17 ⟨rfl, hb⟩
    clear kg kgz
    have hz17 := hb.size
    replace IB0 := IB0.ext hb
    replace IB1 := IB1.ext hb
    replace ID0 := ID0.ext hb
    replace ID1 := ID1.ext hb
    replace IF := IF.ext hb
    replace IVS := IVS.ext hb
    replace IRS := IRS.ext hb
    replace IOG := IOG.ext hb
    replace IVG := IVG.ext hb
    clear hb
    have hmq : ((1 + (totalL L : Int)) != (1 + (totalL L : Int))) = false := by simp
    have hmp : (0 : Int) ≤ (totalL L : Int) := by omega
    have kb0 := IB0.cell (i := 0) rfl
    have kb1 := IB1.cell (i := 0) rfl
    have kb1z := IB1.cell (i := 1) rfl
    go_upto_region 31 with fail
    go_cut [15, 16] (fun p q wc => ∃ (b5 : Nat) (A5 : Option Addr) (c5 : Nat), p = .pointer (some ⟨b5, 0, none⟩) ∧ q = .int .i64 k ∧ Hid (wc.heap[b5]? = some (.cells #[.int .i64 v, .slice A5 l c5] 28 (0, 0)) ∧ RdL wc wc.heap.size A5 l c5 L ∧ Ext w17 wc))
    case first =>
      have Xd := Lib.hid (Ext.drew (Ext.refl w17))
      have z0 : b < w17.drew.heap.size := by show b < w17.heap.size; omega
      have z1 : b + 1 < w17.drew.heap.size := by show b + 1 < w17.heap.size; omega
      have HD0 := Lib.hid (fun (V : World) (x : Ext w17 V) => toMilnor_any A0 c0 n0 xss0 V ((ID0.ext x).holds.mono (ID0.ext x).le) (by omega) (by omega))
      have HD1 := Lib.hid (fun (V : World) (x : Ext w17 V) => toPoly_any a1 A1 c1 n1 xss1 V ((ID1.ext x).holds.mono (ID1.ext x).le) (by omega) (by omega))
      go_region_held3 (fun w' => w'.cell? ⟨b, 0, none⟩ = some (.slice A0 n0 c0) ∧ w'.cell? ⟨b + 1, 0, none⟩ = some (.int .i64 a1) ∧ w'.cell? ⟨b + 1, 1, none⟩ = some (.slice A1 n1 c1)) (first | (refine ⟨?_, ?_, ?_⟩ <;> (first | assumption | exact old_at (by assumption) (by assumption) | (refine (World.cell?_setCell_far _ _ _ _ (Nat.ne_of_gt (by assumption))).trans ?_; assumption) | (refine (World.cell?_setCell_far _ _ _ _ (Nat.ne_of_gt (by assumption))).trans ((World.cell?_setCell_far _ _ _ _ (Nat.ne_of_gt (by assumption))).trans ?_); assumption))) | go_keep)
        (first
          | (go_at_call_of 46 A0
             refine (HD0.out _ (by first | exact Xd.out | exact Xd.out.alloc _)).mono ?_
             rintro e u0 ⟨A3, c3, rfl, ho3, hb3⟩
             have kb0p := bcell hb3 (o := 0) (v := .slice A0 n0 c0) (by first | exact z0 | exact lt_alloc_of z0) (by first | assumption | exact old_at z0 (by assumption))
             have zp0 : b < _ := Nat.lt_of_lt_of_le (by first | exact z0 | exact lt_alloc_of z0) hb3.size
             have kb1p := bcell hb3 (o := 0) (v := .int .i64 a1) (by first | exact z1 | exact lt_alloc_of z1) (by first | assumption | exact old_at z1 (by assumption))
             have kb1zp := bcell hb3 (o := 1) (v := .slice A1 n1 c1) (by first | exact z1 | exact lt_alloc_of z1) (by first | assumption | exact old_at z1 (by assumption))
             have zp1 : b + 1 < _ := Nat.lt_of_lt_of_le (by first | exact z1 | exact lt_alloc_of z1) hb3.size
             try (have kna0 := bcell hb3 (b := w17.heap.size) (o := 0) (v := .int .i64 0) (by simp) (new_at rfl rfl); have fna0 := bfree hb3 (b := w17.heap.size) (o := 0) (by simp) (new_free rfl); have kna1 := bcell hb3 (b := w17.heap.size) (o := 1) (v := .slice none 0 0) (by simp) (new_at rfl rfl); have fna1 := bfree hb3 (b := w17.heap.size) (o := 1) (by simp) (new_free rfl); have lna : w17.heap.size < _ := Nat.lt_of_lt_of_le (by simp) hb3.size)
             have N3 := Lib.hid (And.intro ho3.own.rd hb3)
             have X3 : Hid (Ext w17 u0) := Lib.hid (by first | exact Xd.out.trans hb3 | exact (Xd.out.alloc _).trans hb3)
             clear ho3 hb3)
          | (go_at_call_of 20 A1
             refine (HD1.out _ (by first | exact X3.out | exact X3.out.alloc _)).mono ?_
             rintro e u1 ⟨A4, c4, rfl, ho4, hb4⟩
             have kb0q := bcell hb4 (o := 0) (v := .slice A0 n0 c0) (by first | exact zp0 | exact lt_alloc_of zp0) (by first | assumption | exact old_at zp0 (by assumption))
             have zq0 : b < _ := Nat.lt_of_lt_of_le (by first | exact zp0 | exact lt_alloc_of zp0) hb4.size
             have kb1q := bcell hb4 (o := 0) (v := .int .i64 a1) (by first | exact zp1 | exact lt_alloc_of zp1) (by first | assumption | exact old_at zp1 (by assumption))
             have kb1zq := bcell hb4 (o := 1) (v := .slice A1 n1 c1) (by first | exact zp1 | exact lt_alloc_of zp1) (by first | assumption | exact old_at zp1 (by assumption))
             have zq1 : b + 1 < _ := Nat.lt_of_lt_of_le (by first | exact zp1 | exact lt_alloc_of zp1) hb4.size
             try (have knb0 := bcell hb4 (b := u0.heap.size) (o := 0) (v := .int .i64 0) (by simp) (new_at rfl rfl); have fnb0 := bfree hb4 (b := u0.heap.size) (o := 0) (by simp) (new_free rfl); have knb1 := bcell hb4 (b := u0.heap.size) (o := 1) (v := .slice none 0 0) (by simp) (new_at rfl rfl); have fnb1 := bfree hb4 (b := u0.heap.size) (o := 1) (by simp) (new_free rfl); have lnb : u0.heap.size < _ := Nat.lt_of_lt_of_le (by simp) hb4.size)
             try (have knc0 := bcell hb4 lna kna0; have fnc0 := bfree hb4 lna fna0; have knc1 := bcell hb4 lna kna1; have fnc1 := bfree hb4 lna fna1; have lnc := Nat.lt_of_lt_of_le lna hb4.size)
             have N4 := Lib.hid (And.intro ho4.own.rd hb4)
             have X4 : Hid (Ext w17 u1) := Lib.hid (by first | exact X3.out.trans hb4 | exact (X3.out.alloc _).trans hb4)
             have R3 : Hid (RdL u1 u1.heap.size A3 n0 c3 xss0) := Lib.hid (by first | exact (N3.out.1.below hb4).mono hb4.size | exact ((N3.out.1.alloc _).below hb4).mono hb4.size)
             clear ho4 hb4)
          | (go_at_call 47
             refine (HI.out _ _ _ _ _ (by first | exact R3.out | exact R3.out.alloc _) (by first | exact N4.out.1 | exact N4.out.1.alloc _)).mono ?_
             rintro e u2 ⟨A5, c5, rfl, ho5, hb5⟩
             have kb0r := bcell hb5 (o := 0) (v := .slice A0 n0 c0) (by first | exact zq0 | exact lt_alloc_of zq0) (by first | assumption | exact old_at zq0 (by assumption))
             have zr0 : b < _ := Nat.lt_of_lt_of_le (by first | exact zq0 | exact lt_alloc_of zq0) hb5.size
             have kb1r := bcell hb5 (o := 0) (v := .int .i64 a1) (by first | exact zq1 | exact lt_alloc_of zq1) (by first | assumption | exact old_at zq1 (by assumption))
             have kb1zr := bcell hb5 (o := 1) (v := .slice A1 n1 c1) (by first | exact zq1 | exact lt_alloc_of zq1) (by first | assumption | exact old_at zq1 (by assumption))
             have zr1 : b + 1 < _ := Nat.lt_of_lt_of_le (by first | exact zq1 | exact lt_alloc_of zq1) hb5.size
             try (have knd0 := bcell hb5 (b := u1.heap.size) (o := 0) (v := .int .i64 0) (by simp) (new_at rfl rfl); have fnd0 := bfree hb5 (b := u1.heap.size) (o := 0) (by simp) (new_free rfl); have knd1 := bcell hb5 (b := u1.heap.size) (o := 1) (v := .slice none 0 0) (by simp) (new_at rfl rfl); have fnd1 := bfree hb5 (b := u1.heap.size) (o := 1) (by simp) (new_free rfl); have lnd : u1.heap.size < _ := Nat.lt_of_lt_of_le (by simp) hb5.size)
             try (have kne0 := bcell hb5 lnb knb0; have fne0 := bfree hb5 lnb fnb0; have kne1 := bcell hb5 lnb knb1; have fne1 := bfree hb5 lnb fnb1; have lne := Nat.lt_of_lt_of_le lnb hb5.size)
             try (have knf0 := bcell hb5 lnc knc0; have fnf0 := bfree hb5 lnc fnc0; have knf1 := bcell hb5 lnc knc1; have fnf1 := bfree hb5 lnc fnc1; have lnf := Nat.lt_of_lt_of_le lnc hb5.size)
             have N5 := Lib.hid (And.intro ho5 hb5)
             clear ho5 hb5))
      all_goals
        go_wp2_with fail
        go_meet
        first
          | exact ⟨_, A5, c5, rfl, rfl, Lib.hid (var_set (cs := #[.int .i64 0, .slice none 0 0]) (cs' := #[.int .i64 v, .slice A5 l c5]) (Ext.refl _) (Ext.trans (Ext.drew (Ext.refl _)) (Ext.trans N3.out.2 N4.out.2)) N5.out.2 N5.out.1 (setCell_off2 _ _) (fun h => setCell_at _ (setCell_at _ h)))⟩
          | exact ⟨_, A5, c5, rfl, rfl, Lib.hid (var_set (cs := #[.int .i64 0, .slice none 0 0]) (cs' := #[.int .i64 v, .slice A5 l c5]) X3.out N4.out.2 N5.out.2 N5.out.1 (setCell_off2 _ _) (fun h => setCell_at _ (setCell_at _ h)))⟩
          | exact ⟨_, A5, c5, rfl, rfl, Lib.hid (var_set (cs := #[.int .i64 0, .slice none 0 0]) (cs' := #[.int .i64 v, .slice A5 l c5]) X4.out (Ext.refl _) N5.out.2 N5.out.1 (setCell_off2 _ _) (fun h => setCell_at _ (setCell_at _ h)))⟩
          | exact ⟨_, A5, c5, rfl, rfl, Lib.hid ⟨heap_alloc_new _ _, N5.out.1.own.rd.alloc _, (X4.out.trans N5.out.2).alloc _⟩⟩
    case rest =>
      obtain ⟨bH, AH, cH, rfl, rfl, hv⟩ := hcut
      obtain ⟨hv1, hv2, hb⟩ := hv.out
      obtain ⟨w18, hwe⟩ : ∃ V : World, V = wc := ⟨_, rfl⟩
      subst hwe
      clear kb0 kb1 kb1z
      have hz18 := hb.size
      replace IB0 := IB0.ext hb
      replace IB1 := IB1.ext hb
      replace ID0 := ID0.ext hb
      replace ID1 := ID1.ext hb
      replace IF := IF.ext hb
      replace IVS := IVS.ext hb
      replace IRS := IRS.ext hb
      replace IOG := IOG.ext hb
      replace IVG := IVG.ext hb
      have IVH := It.var hv1
      have IRH := It.rdL hv2 (Nat.le_refl _)
      obtain ⟨sH, hsH⟩ : ∃ s, s = w18.heap.size := ⟨_, rfl⟩
      rw [← hsH] at IRH
      replace hsH := Nat.le_of_eq hsH
      have hvH := IVH.le
      clear hv hv1 hv2 hb
      have kg := IVH.cell (i := 0) rfl
      have kgz := IVH.cell (i := 1) rfl
      have ks := IVS.cell (i := 0) rfl
      have ksz := IVS.cell (i := 1) rfl
      go_wp2_with fail
      refine (eqPoly_any v v AH AS cH cS l l L L _ _ _ IRH.holds IRS.holds IRH.le IRS.le (by omega) (by omega) (by have := HLt.out; omega) (by have := HLt.out; omega)).mono ?_
      rintro e w19 ⟨rfl, hb⟩
      rw [show decide (v = v ∧ L = L) = true from by simp]
      clear kg kgz ks ksz
      have hz19 := hb.size
      replace IB0 := IB0.ext hb
      replace IB1 := IB1.ext hb
      replace ID0 := ID0.ext hb
      replace ID1 := ID1.ext hb
      replace IF := IF.ext hb
      replace IVS := IVS.ext hb
      replace IRS := IRS.ext hb
      replace IOG := IOG.ext hb
      replace IVG := IVG.ext hb
      replace IVH := IVH.ext hb
      replace IRH := IRH.ext hb
      clear hb
      have kg := IVG.cell (i := 0) rfl
      have kgz := IVG.cell (i := 1) rfl
      go_wp2_with fail
      refine (heldPoly_any v AG cG l L _ _ 1 IOG.holds.own.rd (Nat.le_refl _) (by omega) (by have := HLt.out; omega) (by omega) (by omega)).mono ?_
      rintro e w20 ⟨rfl, hb⟩
      clear kg kgz
      have hz20 := hb.size
      replace IB0 := IB0.ext hb
      replace IB1 := IB1.ext hb
      replace ID0 := ID0.ext hb
      replace ID1 := ID1.ext hb
      replace IF := IF.ext hb
      replace IVS := IVS.ext hb
      replace IRS := IRS.ext hb
      replace IOG := IOG.ext hb
      replace IVG := IVG.ext hb
      replace IVH := IVH.ext hb
      replace IRH := IRH.ext hb
      clear hb
      go_wp2_with fail
      go_ret
      exact ⟨rfl, by rw [← Hb.out]; exact IF.holds⟩

theorem bigActMilnor0 (A0 : Option Addr) (n0 c0 : Nat) (xss0 : List (List Int)) (a1 : Int) (A1 : Option Addr) (n1 c1 : Nat) (xss1 : List (List Int)) (w : World) (h0 : RdL w w.heap.size A0 n0 c0 xss0) (m0 : n0 ≤ 9223372036854775807) (e0 : ∀ x ∈ xss0, x.length ≤ 9223372036854775807) (hs : ¬ (n0 + totalL xss0) ≤ 1048576) :
    Calls Try.prog 11 #[.agg #[.slice A0 n0 c0], .agg #[.int .i64 a1, .slice A1 n1 c1]] w fun e w' => e = .returned (.bool true) ∧ Below w.heap.size w w' := by
  obtain ⟨w0, hw0⟩ : ∃ w0, w0 = (w.alloc (.cells #[.slice A0 n0 c0] 65)).alloc (.cells #[.int .i64 a1, .slice A1 n1 c1] 39) := ⟨_, rfl⟩
  obtain ⟨b, hbe⟩ : ∃ b, b = w.heap.size := ⟨_, rfl⟩
  have x0 : Ext w w0 := by rw [hw0]; exact ((Ext.refl w).alloc _).alloc _
  have hz0 : w0.heap.size = b + 1 + 1 := by rw [hw0, hbe]; simp
  have IB0 : It (b) (b + 1) (fun V => V.heap[b]? = some (.cells #[.slice A0 n0 c0] 65 (0, 0))) w0 := by
    rw [hw0]
    have h1 := var_new (W := w.alloc (.cells #[.slice A0 n0 c0] 65)) (b := b) rfl (by subst hbe; simp)
    exact h1.ext ((Ext.refl _).alloc _)
  have IB1 : It (b + 1) (b + 1 + 1) (fun V => V.heap[b + 1]? = some (.cells #[.int .i64 a1, .slice A1 n1 c1] 39 (0, 0))) w0 := by
    rw [hw0]
    have h1 := var_new (W := (w.alloc (.cells #[.slice A0 n0 c0] 65)).alloc (.cells #[.int .i64 a1, .slice A1 n1 c1] 39)) (b := b + 1) rfl (by subst hbe; simp)
    exact h1
  skip
  have ID0 : It 0 b (fun V => RdL V b A0 n0 c0 xss0) w0 := by rw [hbe]; exact (It.rdL h0 (Nat.le_refl _)).ext x0
  clear h0
  have E0 := Lib.hid e0; clear e0
  have IF : It 0 b (fun V => Below b w V) w0 := by rw [hbe]; exact It.fin x0 (Nat.le_refl _)
  have Hw := Lib.hid hw0; clear hw0
  have Hb := Lib.hid hbe; clear hbe x0
  replace hz0 : b + 1 + 1 ≤ w0.heap.size := Nat.le_of_eq hz0.symm
  go_enter Try.func11, Try.ntmps11
  go_wp2_with fail
  rw [← Hw.out, ← Hb.out]
  have kb0 := IB0.cell (i := 0) rfl
  have kb1 := IB1.cell (i := 0) rfl
  have kb1z := IB1.cell (i := 1) rfl
  refine (szMilnor_any A0 c0 n0 b xss0 _ (1048576) ID0.holds ID0.le (by omega) (by omega) m0 E0.out).mono ?_
  rintro e w1 ⟨rfl, hb⟩
  rw [show szR (1048576) (n0 + totalL xss0) = -1 from by unfold szR; rw [if_pos (by omega)]]
  clear kb0 kb1 kb1z
  have hz1 := hb.size
  replace IB0 := IB0.ext hb
  replace IB1 := IB1.ext hb
  replace ID0 := ID0.ext hb
  replace IF := IF.ext hb
  clear hb
  go_wp2_with fail
  go_ret
  exact ⟨rfl, by rw [← Hb.out]; exact IF.holds⟩

theorem bigActMilnor1 (A0 : Option Addr) (n0 c0 : Nat) (xss0 : List (List Int)) (a1 : Int) (A1 : Option Addr) (n1 c1 : Nat) (xss1 : List (List Int)) (w : World) (h0 : RdL w w.heap.size A0 n0 c0 xss0) (m0 : n0 ≤ 9223372036854775807) (e0 : ∀ x ∈ xss0, x.length ≤ 9223372036854775807) (h1 : RdL w w.heap.size A1 n1 c1 xss1) (m1 : n1 ≤ 9223372036854775807) (e1 : ∀ x ∈ xss1, x.length ≤ 9223372036854775807) (hlo : (n0 + totalL xss0) ≤ 1048576) (hs : ¬ (n0 + totalL xss0) + (n1 + totalL xss1) ≤ 1048576) :
    Calls Try.prog 11 #[.agg #[.slice A0 n0 c0], .agg #[.int .i64 a1, .slice A1 n1 c1]] w fun e w' => e = .returned (.bool true) ∧ Below w.heap.size w w' := by
  obtain ⟨w0, hw0⟩ : ∃ w0, w0 = (w.alloc (.cells #[.slice A0 n0 c0] 65)).alloc (.cells #[.int .i64 a1, .slice A1 n1 c1] 39) := ⟨_, rfl⟩
  obtain ⟨b, hbe⟩ : ∃ b, b = w.heap.size := ⟨_, rfl⟩
  have x0 : Ext w w0 := by rw [hw0]; exact ((Ext.refl w).alloc _).alloc _
  have hz0 : w0.heap.size = b + 1 + 1 := by rw [hw0, hbe]; simp
  have IB0 : It (b) (b + 1) (fun V => V.heap[b]? = some (.cells #[.slice A0 n0 c0] 65 (0, 0))) w0 := by
    rw [hw0]
    have h1 := var_new (W := w.alloc (.cells #[.slice A0 n0 c0] 65)) (b := b) rfl (by subst hbe; simp)
    exact h1.ext ((Ext.refl _).alloc _)
  have IB1 : It (b + 1) (b + 1 + 1) (fun V => V.heap[b + 1]? = some (.cells #[.int .i64 a1, .slice A1 n1 c1] 39 (0, 0))) w0 := by
    rw [hw0]
    have h1 := var_new (W := (w.alloc (.cells #[.slice A0 n0 c0] 65)).alloc (.cells #[.int .i64 a1, .slice A1 n1 c1] 39)) (b := b + 1) rfl (by subst hbe; simp)
    exact h1
  skip
  have ID0 : It 0 b (fun V => RdL V b A0 n0 c0 xss0) w0 := by rw [hbe]; exact (It.rdL h0 (Nat.le_refl _)).ext x0
  clear h0
  have E0 := Lib.hid e0; clear e0
  have ID1 : It 0 b (fun V => RdL V b A1 n1 c1 xss1) w0 := by rw [hbe]; exact (It.rdL h1 (Nat.le_refl _)).ext x0
  clear h1
  have E1 := Lib.hid e1; clear e1
  have IF : It 0 b (fun V => Below b w V) w0 := by rw [hbe]; exact It.fin x0 (Nat.le_refl _)
  have Hw := Lib.hid hw0; clear hw0
  have Hb := Lib.hid hbe; clear hbe x0
  replace hz0 : b + 1 + 1 ≤ w0.heap.size := Nat.le_of_eq hz0.symm
  go_enter Try.func11, Try.ntmps11
  go_wp2_with fail
  rw [← Hw.out, ← Hb.out]
  have kb0 := IB0.cell (i := 0) rfl
  have kb1 := IB1.cell (i := 0) rfl
  have kb1z := IB1.cell (i := 1) rfl
  refine (szMilnor_any A0 c0 n0 b xss0 _ (1048576) ID0.holds ID0.le (by omega) (by omega) m0 E0.out).mono ?_
  rintro e w1 ⟨rfl, hb⟩
  rw [show szR (1048576) (n0 + totalL xss0) = 1048576 - ((n0 + totalL xss0 : Nat) : Int) from by unfold szR; rw [if_neg (by omega)]]
  clear kb0 kb1 kb1z
  have hz1 := hb.size
  replace IB0 := IB0.ext hb
  replace IB1 := IB1.ext hb
  replace ID0 := ID0.ext hb
  replace ID1 := ID1.ext hb
  replace IF := IF.ext hb
  clear hb
  have kb0 := IB0.cell (i := 0) rfl
  have kb1 := IB1.cell (i := 0) rfl
  have kb1z := IB1.cell (i := 1) rfl
  go_wp2_with fail
  refine (szPoly_any a1 A1 c1 n1 b xss1 _ (1048576 - ((n0 + totalL xss0 : Nat) : Int)) ID1.holds ID1.le (by omega) (by omega) m1 E1.out).mono ?_
  rintro e w2 ⟨rfl, hb⟩
  rw [show szR (1048576 - ((n0 + totalL xss0 : Nat) : Int)) (n1 + totalL xss1) = -1 from by unfold szR; rw [if_pos (by omega)]]
  clear kb0 kb1 kb1z
  have hz2 := hb.size
  replace IB0 := IB0.ext hb
  replace IB1 := IB1.ext hb
  replace ID0 := ID0.ext hb
  replace ID1 := ID1.ext hb
  replace IF := IF.ext hb
  clear hb
  go_wp2_with fail
  go_ret
  exact ⟨rfl, by rw [← Hb.out]; exact IF.holds⟩
end Go.Proofs.Ytejlkobieohgfaa
