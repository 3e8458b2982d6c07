/- The law FnExactNormalForm, over whatever both sides answer alike. -/
import Derived.Test.YtkajhjgfmpjkoaaNrmS
import Derived.Test.YtkajhjgfmpjkoaaLawK
namespace Go.Proofs.Ytkajhjgfmpjkoaa
open Go.RowKit
set_option linter.unusedVariables false

set_option maxRecDepth 100000 in
set_option maxHeartbeats 4000000 in
theorem coreNormalForm (a0 : Int) (A0 : Option Addr) (n0 c0 : Nat) (xss0 : List (List Int)) (v : Int) (l : Nat) (L : List (List Int)) (k : Int) (hl : l ≤ 1000000000) (ht : totalL L ≤ 1000000000) (w : World) (h0 : RdL w w.heap.size A0 n0 c0 xss0) (e0 : ∀ x ∈ xss0, x.length ≤ 9223372036854775807) (hs : (n0 + totalL xss0) ≤ 1048576)
    (hS : ∀ (A0 : Option Addr) (c0 : Nat) (w : World), RdL w w.heap.size A0 n0 c0 xss0 → Calls Try.prog 10 #[.agg #[.int .i64 a0, .slice A0 n0 c0]] w (RetNC v l L k w))
    (hI : ∀ (A0 : Option Addr) (c0 : Nat) (w : World), RdL w w.heap.size A0 n0 c0 xss0 → Calls Try.prog 11 #[.agg #[.int .i64 a0, .slice A0 n0 c0]] w (RetNC v l L k w)) :
    Calls Try.prog 4 #[.agg #[.int .i64 a0, .slice A0 n0 c0]] w fun e w' => e = .returned (.bool true) ∧ Below w.heap.size w w' := by
  obtain ⟨w0, hw0⟩ : ∃ w0, w0 = w.alloc (.cells #[.int .i64 a0, .slice A0 n0 c0] 24) := ⟨_, rfl⟩
  obtain ⟨b, hbe⟩ : ∃ b, b = w.heap.size := ⟨_, rfl⟩
  have x0 : Ext w w0 := by rw [hw0]; exact (Ext.refl w).alloc _
  have hz0 : w0.heap.size = b + 1 := by rw [hw0, hbe]; simp
  have IB0 : It (b) (b + 1) (fun V => V.heap[b]? = some (.cells #[.int .i64 a0, .slice A0 n0 c0] 24 (0, 0))) w0 := by
    rw [hw0]
    have h1 := var_new (W := w.alloc (.cells #[.int .i64 a0, .slice A0 n0 c0] 24)) (b := b) rfl (by subst hbe; simp)
    exact h1
  have ID0 : It 0 b (fun V => RdL V b A0 n0 c0 xss0) w0 := by rw [hbe]; exact (It.rdL h0 (Nat.le_refl _)).ext x0
  have HL0 := Lib.hid h0.len; clear h0
  have E0 := Lib.hid e0; clear e0
  have IF : It 0 b (fun V => Below b w V) w0 := by rw [hbe]; exact It.fin x0 (Nat.le_refl _)
  have HS := Lib.hid hS; clear hS
  have HI := Lib.hid hI; clear hI
  have Hw := Lib.hid hw0; clear hw0
  have Hb := Lib.hid hbe; clear hbe x0
  have HLt := Lib.hid ht; clear ht
  replace hz0 : b + 1 ≤ w0.heap.size := Nat.le_of_eq hz0.symm
  go_enter Try.func4, Try.ntmps4
  go_wp2_with fail
  rw [← Hw.out, ← Hb.out]
  have kb0 := IB0.cell (i := 0) rfl
  have kb0z := IB0.cell (i := 1) rfl
  refine (szPoly_any a0 A0 c0 n0 b xss0 _ (1048576) ID0.holds ID0.le (by omega) (by omega) (by omega) E0.out).mono ?_
  rintro e w1 ⟨rfl, hb⟩
  rw [show szR (1048576) (n0 + totalL xss0) = 1048576 - ((n0 + totalL xss0 : Nat) : Int) from by unfold szR; rw [if_neg (by omega)]]
  clear kb0 kb0z
  have hz1 := hb.size
  replace IB0 := IB0.ext hb
  replace ID0 := ID0.ext hb
  replace IF := IF.ext hb
  clear hb
  have kb0 := IB0.cell (i := 0) rfl
  have kb0z := IB0.cell (i := 1) rfl
  go_wp2_with fail
  refine (toPoly_any a0 A0 c0 n0 xss0 _ (ID0.holds.mono ID0.le) (by omega) (by omega)).mono ?_
  rintro e w2 ⟨A30, c30, rfl, ho, hb⟩
  clear kb0 kb0z
  have hz2 := hb.size
  replace IB0 := IB0.ext hb
  replace ID0 := ID0.ext hb
  replace IF := IF.ext hb
  have IC0 := It.rdL ho.own.rd (Nat.le_refl _)
  clear ho hb
  have kb0 := IB0.cell (i := 0) rfl
  have kb0z := IB0.cell (i := 1) rfl
  go_wp2_with fail
  refine (HS.out _ _ _ (IC0.holds.mono IC0.le)).mono ?_
  rintro e w3 ⟨AS, cS, rfl, ho, hb⟩
  clear IC0
  clear kb0 kb0z
  have hz3 := hb.size
  replace IB0 := IB0.ext hb
  replace ID0 := ID0.ext hb
  replace IF := IF.ext hb
  have IRS := It.rdL ho.own.rd (Nat.le_refl _)
  obtain ⟨sS, hsS⟩ : ∃ s, s = w3.heap.size := ⟨_, rfl⟩
  rw [← hsS] at IRS
  have hseS := Lib.hid hsS
  replace hsS := Nat.le_of_eq hsS
  clear ho hb
  have kb0 := IB0.cell (i := 0) rfl
  have kb0z := IB0.cell (i := 1) rfl
  have zkb0 := Nat.lt_of_succ_le IB0.le
  go_wp2_with fail
  obtain ⟨w4, hw⟩ : ∃ V, V = w3.alloc (.cells #[.int .i64 v, .slice AS l cS] 28) := ⟨_, rfl⟩
  obtain ⟨bS, hbt⟩ : ∃ B, B = w3.heap.size := ⟨_, rfl⟩
  rw [← hw, ← hbt]
  have IVS := var_new hw hbt
  have hb := ext_new hw
  have hbtS := Nat.le_of_eq hbt
  have hbuS := Nat.le_of_eq hbt.symm
  have hvS := IVS.le
  clear hw hbt
  clear kb0 kb0z zkb0
  have hz4 := hb.size
  replace IB0 := IB0.ext hb
  replace ID0 := ID0.ext hb
  replace IF := IF.ext hb
  replace IRS := IRS.ext hb
  clear hb
  refine (toPoly_any a0 A0 c0 n0 xss0 _ (ID0.holds.mono ID0.le) (by omega) (by omega)).mono ?_
  rintro e w5 ⟨A0x, c0x, rfl, ho, hb⟩
  obtain ⟨l0x, hlx⟩ : ∃ s, s = w4.heap.size := ⟨_, rfl⟩
  obtain ⟨m0x, hmx⟩ : ∃ s, s = w5.heap.size := ⟨_, rfl⟩
  rw [← hlx, ← hmx] at ho
  have hz5 := hb.size
  replace IB0 := IB0.ext hb
  replace ID0 := ID0.ext hb
  replace IF := IF.ext hb
  replace IVS := IVS.ext hb
  replace IRS := IRS.ext hb
  have IO0 := It.ownM ho (Nat.le_of_eq hmx)
  have hlx0 := Nat.le_of_eq hlx
  have hly0 := Nat.le_of_eq hlx.symm
  have hmx0 := Nat.le_of_eq hmx
  have hmy0 := Nat.le_of_eq hmx.symm
  clear ho hb hlx hmx
  go_wp2_with fail
  obtain ⟨w6, hw⟩ : ∃ V, V = w5.alloc (.cells #[.int .i64 a0, .slice A0x n0 c0x] 28) := ⟨_, rfl⟩
  obtain ⟨bx0, hbt⟩ : ∃ B, B = w5.heap.size := ⟨_, rfl⟩
  rw [← hw, ← hbt]
  have IVx0 := var_new hw hbt
  have hb := ext_new hw
  have hbtx0 := Nat.le_of_eq hbt
  have hbux0 := Nat.le_of_eq hbt.symm
  have hvx0 := IVx0.le
  clear hw hbt
  have hz6 := hb.size
  replace IB0 := IB0.ext hb
  replace ID0 := ID0.ext hb
  replace IF := IF.ext hb
  replace IVS := IVS.ext hb
  replace IRS := IRS.ext hb
  replace IO0 := IO0.ext hb
  clear hb
  refine (HI.out _ _ _ (IO0.holds.own.rd)).mono ?_
  rintro e w7 ⟨AG, cG, rfl, ho, hb⟩
  skip
  obtain ⟨lG, hlG⟩ : ∃ s, s = w6.heap.size := ⟨_, rfl⟩
  obtain ⟨mG, hmG⟩ : ∃ s, s = w7.heap.size := ⟨_, rfl⟩
  rw [← hlG, ← hmG] at ho
  have hz7 := hb.size
  replace IB0 := IB0.ext hb
  replace ID0 := ID0.ext hb
  replace IF := IF.ext hb
  replace IVS := IVS.ext hb
  replace IRS := IRS.ext hb
  replace IO0 := IO0.ext hb
  replace IVx0 := IVx0.ext hb
  have IOG := It.ownM ho (Nat.le_of_eq hmG)
  have hlGx := Nat.le_of_eq hlG
  have hlGy := Nat.le_of_eq hlG.symm
  have hmGx := Nat.le_of_eq hmG
  have hmGy := Nat.le_of_eq hmG.symm
  clear ho hb hlG hmG
  have ks := IVS.cell (i := 0) rfl
  have ksz := IVS.cell (i := 1) rfl
  have zks := Nat.lt_of_succ_le IVS.le
  go_wp2_with fail
  obtain ⟨w8, hw⟩ : ∃ V, V = w7.alloc (.cells #[.int .i64 v, .slice AG l cG] 28) := ⟨_, rfl⟩
  obtain ⟨bG, hbt⟩ : ∃ B, B = w7.heap.size := ⟨_, rfl⟩
  rw [← hw, ← hbt]
  have IVG := var_new hw hbt
  have hb := ext_new hw
  have hbtG := Nat.le_of_eq hbt
  have hbuG := Nat.le_of_eq hbt.symm
  have hvG := IVG.le
  clear hw hbt
  clear ks ksz zks
  have hz8 := hb.size
  replace IB0 := IB0.ext hb
  replace ID0 := ID0.ext hb
  replace IF := IF.ext hb
  replace IVS := IVS.ext hb
  replace IRS := IRS.ext hb
  replace IO0 := IO0.ext hb
  replace IVx0 := IVx0.ext hb
  replace IOG := IOG.ext hb
  clear hb
  have hnk : (k != k) = false := by simp
  refine (eqPoly_any v v AG AS cG cS l l L L _ _ _ IOG.holds.own.rd IRS.holds (Nat.le_refl _) IRS.le (by omega) (by omega) (by have := HLt.out; omega) (by have := HLt.out; omega)).mono ?_
  rintro e w9 ⟨rfl, hb⟩
  rw [show decide (v = v ∧ L = L) = true from by simp]
  have hz9 := hb.size
  replace IB0 := IB0.ext hb
  replace ID0 := ID0.ext hb
  replace IF := IF.ext hb
  replace IVS := IVS.ext hb
  replace IRS := IRS.ext hb
  replace IO0 := IO0.ext hb
  replace IVx0 := IVx0.ext hb
  replace IOG := IOG.ext hb
  replace IVG := IVG.ext hb
  clear hb
  have kx0 := IVx0.cell (i := 0) rfl
  have kx0z := IVx0.cell (i := 1) rfl
  have kb0 := IB0.cell (i := 0) rfl
  have kb0z := IB0.cell (i := 1) rfl
  go_wp2_with fail
  have zb : b < w9.drew.heap.size := IB0.le
  have zx : bx0 < w9.drew.heap.size := IVx0.le
  have Ed := Lib.hid (Ext.drew (Ext.refl w9))
  have Xd := Lib.hid (IO0.ext Ed.out)
  have Dd := Lib.hid (ID0.ext Ed.out)
  go_region_held3 (fun w' => w'.cell? ⟨bx0, 0, none⟩ = some (.int .i64 a0) ∧ w'.cell? ⟨bx0, 1, none⟩ = some (.slice A0x n0 c0x) ∧ w'.cell? ⟨b, 0, none⟩ = some (.int .i64 a0) ∧ w'.cell? ⟨b, 1, none⟩ = some (.slice A0 n0 c0)) (first | exact ⟨kx0, kx0z, kb0, kb0z⟩ | exact ⟨kx0p, kx0zp, kb0p, kb0zp⟩ | exact ⟨kx0q, kx0zq, kb0q, kb0zq⟩)
    (first
      | (go_at_call 7
         refine (toPoly_any a0 A0 c0 n0 xss0 _ (Dd.out.holds.mono Dd.out.le) (by omega) (by omega)).mono ?_
         rintro e u0 ⟨A0y, c0y, rfl, ho, hb⟩
         have kx0p := bcell hb zx kx0
         have kx0zp := bcell hb zx kx0z
         have kb0p := bcell hb zb kb0
         have kb0zp := bcell hb zb kb0z
         have zbp := Nat.lt_of_lt_of_le zb hb.size
         have zxp := Nat.lt_of_lt_of_le zx hb.size
         have Ry := Lib.hid ho.own.rd
         have Xp := Lib.hid (Xd.out.ext hb)
         have Ep := Lib.hid (Ed.out.trans hb)
         clear ho hb)
      | (go_at_call 9
         refine (eqPoly_any a0 a0 A0x A0y c0x c0y n0 n0 xss0 xss0 _ _ _ Xp.out.holds.own.rd Ry.out (Nat.le_refl _) (Nat.le_refl _) (by omega) (by omega) (by omega) (by omega)).mono ?_
         rintro e w10 ⟨rfl, hb⟩
         have kx0q := bcell hb zxp kx0p
         have kx0zq := bcell hb zxp kx0zp
         have kb0q := bcell hb zbp kb0p
         have kb0zq := bcell hb zbp kb0zp
         have Eq := Lib.hid (Ep.out.trans hb)
         clear hb
         rw [show decide (a0 = a0 ∧ xss0 = xss0) = true from by simp]))
  have hb := Eq.out
  clear kx0 kx0z kb0 kb0z kx0p kx0zp kb0p kb0zp kx0q kx0zq kb0q kb0zq zb zx zbp zxp Xd Dd Ed Ry Xp Ep Eq
  have hz10 := hb.size
  replace IB0 := IB0.ext hb
  replace ID0 := ID0.ext hb
  replace IF := IF.ext hb
  replace IVS := IVS.ext hb
  replace IRS := IRS.ext hb
  replace IO0 := IO0.ext hb
  replace IVx0 := IVx0.ext hb
  replace IOG := IOG.ext hb
  replace IVG := IVG.ext hb
  clear hb
  have kx0 := IVx0.cell (i := 0) rfl
  have kx0z := IVx0.cell (i := 1) rfl
  go_wp2_with fail
  refine (markPoly_any a0 A0x c0x n0 xss0 _ _ _ (1) IO0.holds (by omega) (by omega) (by omega) (by omega)).mono ?_
  rintro e w11 ⟨rfl, ho, hm⟩
  clear ho
  clear kx0 kx0z
  have hz11 := hm.size
  replace IB0 := IB0.mid hm (by omega)
  replace ID0 := ID0.mid hm (by omega)
  replace IF := IF.mid hm (by omega)
  replace IVS := IVS.mid hm (by omega)
  replace IRS := IRS.mid hm (by omega)
  replace IOG := IOG.mid hm (by omega)
  replace IVG := IVG.mid hm (by omega)
  clear hm IO0 IVx0
  have kg := IVG.cell (i := 0) rfl
  have kgz := IVG.cell (i := 1) rfl
  have ks := IVS.cell (i := 0) rfl
  have ksz := IVS.cell (i := 1) rfl
  go_wp2_with fail
  refine (eqPoly_any v v AG AS cG cS l l L L _ _ _ IOG.holds.own.rd IRS.holds (Nat.le_refl _) IRS.le (by omega) (by omega) (by have := HLt.out; omega) (by have := HLt.out; omega)).mono ?_
  rintro e w12 ⟨rfl, hb⟩
  rw [show decide (v = v ∧ L = L) = true from by simp]
  clear kg kgz ks ksz
  have hz12 := hb.size
  replace IB0 := IB0.ext hb
  replace ID0 := ID0.ext hb
  replace IF := IF.ext hb
  replace IVS := IVS.ext hb
  replace IRS := IRS.ext hb
  replace IOG := IOG.ext hb
  replace IVG := IVG.ext hb
  clear hb
  have kg := IVG.cell (i := 0) rfl
  have kgz := IVG.cell (i := 1) rfl
  go_wp2_with fail
  refine (markPoly_any v AG cG l L _ _ _ 1 IOG.holds (by omega) (by have := HLt.out; omega) (by omega) (by omega)).mono ?_
  rintro e w13 ⟨rfl, ho, hm⟩
  clear kg kgz
  have hz13 := hm.size
  replace IB0 := IB0.mid hm (by omega)
  replace ID0 := ID0.mid hm (by omega)
  replace IF := IF.mid hm (by omega)
  replace IVS := IVS.mid hm (by omega)
  replace IRS := IRS.mid hm (by omega)
  replace IVG := IVG.mid hm (by omega)
  have hmz : mG ≤ w13.heap.size := Nat.le_trans IOG.le hm.size
  replace IOG := It.ownM ho hmz
  clear hm ho hmz
  have kg := IVG.cell (i := 0) rfl
  have kgz := IVG.cell (i := 1) rfl
  go_wp2_with fail
  refine (heldPoly_any v AG cG l L _ _ 1 IOG.holds.own.rd (Nat.le_refl _) (by omega) (by have := HLt.out; omega) (by omega) (by omega)).mono ?_
  rintro e w14 ⟨rfl, hb⟩
  clear kg kgz
  have hz14 := hb.size
  replace IB0 := IB0.ext hb
  replace ID0 := ID0.ext hb
  replace IF := IF.ext hb
  replace IVS := IVS.ext hb
  replace IRS := IRS.ext hb
  replace IOG := IOG.ext hb
  replace IVG := IVG.ext hb
  clear hb
  have hmq : ((1 + (totalL L : Int)) != (1 + (totalL L : Int))) = false := by simp
  have hmp : (0 : Int) ≤ (totalL L : Int) := by omega
  have kb0 := IB0.cell (i := 0) rfl
  have kb0z := IB0.cell (i := 1) rfl
  go_wp2_with fail
  refine (toPoly_any a0 A0 c0 n0 xss0 _ (ID0.holds.mono ID0.le) (by omega) (by omega)).mono ?_
  rintro e w15 ⟨A30, c30, rfl, ho, hb⟩
  clear kb0 kb0z
  have hz15 := hb.size
  replace IB0 := IB0.ext hb
  replace ID0 := ID0.ext hb
  replace IF := IF.ext hb
  replace IVS := IVS.ext hb
  replace IRS := IRS.ext hb
  replace IOG := IOG.ext hb
  replace IVG := IVG.ext hb
  have IC0 := It.rdL ho.own.rd (Nat.le_refl _)
  clear ho hb
  have kb0 := IB0.cell (i := 0) rfl
  have kb0z := IB0.cell (i := 1) rfl
  go_wp2_with fail
  refine (HI.out _ _ _ (IC0.holds.mono IC0.le)).mono ?_
  rintro e w16 ⟨AH, cH, rfl, ho, hb⟩
  clear IC0
  clear kb0 kb0z
  have hz16 := hb.size
  replace IB0 := IB0.ext hb
  replace ID0 := ID0.ext hb
  replace IF := IF.ext hb
  replace IVS := IVS.ext hb
  replace IRS := IRS.ext hb
  replace IOG := IOG.ext hb
  replace IVG := IVG.ext hb
  have IRH := It.rdL ho.own.rd (Nat.le_refl _)
  obtain ⟨sH, hsH⟩ : ∃ s, s = w16.heap.size := ⟨_, rfl⟩
  rw [← hsH] at IRH
  have hseH := Lib.hid hsH
  replace hsH := Nat.le_of_eq hsH
  clear ho hb
  have ks := IVS.cell (i := 0) rfl
  have ksz := IVS.cell (i := 1) rfl
  have zks := Nat.lt_of_succ_le IVS.le
  go_wp2_with fail
  obtain ⟨w17, hw⟩ : ∃ V, V = w16.alloc (.cells #[.int .i64 v, .slice AH l cH] 28) := ⟨_, rfl⟩
  obtain ⟨bH, hbt⟩ : ∃ B, B = w16.heap.size := ⟨_, rfl⟩
  rw [← hw, ← hbt]
  have IVH := var_new hw hbt
  have hb := ext_new hw
  have hbtH := Nat.le_of_eq hbt
  have hbuH := Nat.le_of_eq hbt.symm
  have hvH := IVH.le
  clear hw hbt
  clear ks ksz zks
  have hz17 := hb.size
  replace IB0 := IB0.ext hb
  replace ID0 := ID0.ext hb
  replace IF := IF.ext hb
  replace IVS := IVS.ext hb
  replace IRS := IRS.ext hb
  replace IOG := IOG.ext hb
  replace IVG := IVG.ext hb
  replace IRH := IRH.ext hb
  clear hb
  refine (eqPoly_any v v AH AS cH cS l l L L _ _ _ IRH.holds IRS.holds IRH.le IRS.le (by omega) (by omega) (by have := HLt.out; omega) (by have := HLt.out; omega)).mono ?_
  rintro e w18 ⟨rfl, hb⟩
  rw [show decide (v = v ∧ L = L) = true from by simp]
  have hz18 := hb.size
  replace IB0 := IB0.ext hb
  replace ID0 := ID0.ext hb
  replace IF := IF.ext hb
  replace IVS := IVS.ext hb
  replace IRS := IRS.ext hb
  replace IOG := IOG.ext hb
  replace IVG := IVG.ext hb
  replace IVH := IVH.ext hb
  replace IRH := IRH.ext hb
  clear hb
  have kg := IVG.cell (i := 0) rfl
  have kgz := IVG.cell (i := 1) rfl
  go_wp2_with fail
  refine (heldPoly_any v AG cG l L _ _ 1 IOG.holds.own.rd (Nat.le_refl _) (by omega) (by have := HLt.out; omega) (by omega) (by omega)).mono ?_
  rintro e w19 ⟨rfl, hb⟩
  clear kg kgz
  have hz19 := hb.size
  replace IB0 := IB0.ext hb
  replace ID0 := ID0.ext hb
  replace IF := IF.ext hb
  replace IVS := IVS.ext hb
  replace IRS := IRS.ext hb
  replace IOG := IOG.ext hb
  replace IVG := IVG.ext hb
  replace IVH := IVH.ext hb
  replace IRH := IRH.ext hb
  clear hb
  go_wp2_with fail
  go_ret
  exact ⟨rfl, by rw [← Hb.out]; exact IF.holds⟩

theorem bigNormalForm0 (a0 : Int) (A0 : Option Addr) (n0 c0 : Nat) (xss0 : List (List Int)) (w : World) (h0 : RdL w w.heap.size A0 n0 c0 xss0) (m0 : n0 ≤ 9223372036854775807) (e0 : ∀ x ∈ xss0, x.length ≤ 9223372036854775807) (hs : ¬ (n0 + totalL xss0) ≤ 1048576) :
    Calls Try.prog 4 #[.agg #[.int .i64 a0, .slice A0 n0 c0]] w fun e w' => e = .returned (.bool true) ∧ Below w.heap.size w w' := by
  obtain ⟨w0, hw0⟩ : ∃ w0, w0 = w.alloc (.cells #[.int .i64 a0, .slice A0 n0 c0] 24) := ⟨_, rfl⟩
  obtain ⟨b, hbe⟩ : ∃ b, b = w.heap.size := ⟨_, rfl⟩
  have x0 : Ext w w0 := by rw [hw0]; exact (Ext.refl w).alloc _
  have hz0 : w0.heap.size = b + 1 := by rw [hw0, hbe]; simp
  have IB0 : It (b) (b + 1) (fun V => V.heap[b]? = some (.cells #[.int .i64 a0, .slice A0 n0 c0] 24 (0, 0))) w0 := by
    rw [hw0]
    have h1 := var_new (W := w.alloc (.cells #[.int .i64 a0, .slice A0 n0 c0] 24)) (b := b) rfl (by subst hbe; simp)
    exact h1
  skip
  have ID0 : It 0 b (fun V => RdL V b A0 n0 c0 xss0) w0 := by rw [hbe]; exact (It.rdL h0 (Nat.le_refl _)).ext x0
  clear h0
  have E0 := Lib.hid e0; clear e0
  have IF : It 0 b (fun V => Below b w V) w0 := by rw [hbe]; exact It.fin x0 (Nat.le_refl _)
  have Hw := Lib.hid hw0; clear hw0
  have Hb := Lib.hid hbe; clear hbe x0
  replace hz0 : b + 1 ≤ w0.heap.size := Nat.le_of_eq hz0.symm
  go_enter Try.func4, Try.ntmps4
  go_wp2_with fail
  rw [← Hw.out, ← Hb.out]
  have kb0 := IB0.cell (i := 0) rfl
  have kb0z := IB0.cell (i := 1) rfl
  refine (szPoly_any a0 A0 c0 n0 b xss0 _ (1048576) ID0.holds ID0.le (by omega) (by omega) m0 E0.out).mono ?_
  rintro e w1 ⟨rfl, hb⟩
  rw [show szR (1048576) (n0 + totalL xss0) = -1 from by unfold szR; rw [if_pos (by omega)]]
  clear kb0 kb0z
  have hz1 := hb.size
  replace IB0 := IB0.ext hb
  replace ID0 := ID0.ext hb
  replace IF := IF.ext hb
  clear hb
  go_wp2_with fail
  go_ret
  exact ⟨rfl, by rw [← Hb.out]; exact IF.holds⟩
end Go.Proofs.Ytkajhjgfmpjkoaa
