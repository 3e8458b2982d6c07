/- The law FnExactDoubleOf, over whatever both sides answer alike. -/
import Derived.Test.YtdpkhgkoeoiemaaDoorDblO
import Derived.Test.YtdpkhgkoeoiemaaDoorLawS
import Derived.Test.YtdpkhgkoeoiemaaDoorDebK
import Derived.Test.YtdpkhgkoeoiemaaDoorLawK
namespace Go.Proofs.YtdpkhgkoeoiemaaDoor
open Go.RowKit
set_option linter.unusedVariables false

set_option maxRecDepth 100000 in
set_option maxHeartbeats 4000000 in
theorem coreDoubleOf (D0 : Option Addr) (d0 q0 : Nat) (ds0 : List Int) (A0 : Option Addr) (n0 c0 : Nat) (xss0 : List (List Int)) (A1 : Option Addr) (n1 c1 : Nat) (xs1 : List Int) (l : Nat) (L : List Int) (k : Int) (hl : l ≤ 1000000000) (w : World) (hT : Deb w) (h0 : RdMd w w.heap.size D0 d0 q0 ds0 A0 n0 c0 xss0) (e0 : ∀ x ∈ xss0, x.length ≤ 9223372036854775807) (h1 : RdS w w.heap.size A1 n1 c1 xs1) (l1 : n1 ≤ 1048576) (hs : (d0 + (n0 + totalL xss0)) ≤ 1048576)
    (hS : ∀ (D0 A0 : Option Addr) (q0 c0 : Nat) (A1 : Option Addr) (c1 : Nat) (w : World), RdMd w w.heap.size D0 d0 q0 ds0 A0 n0 c0 xss0 → RdS w w.heap.size A1 n1 c1 xs1 → Calls Tryd.prog 5 #[.agg #[.slice D0 d0 q0, .slice A0 n0 c0], .slice A1 n1 c1] w (RetSC l L k w))
    (hI : ∀ (D0 A0 : Option Addr) (q0 c0 : Nat) (A1 : Option Addr) (c1 : Nat) (w : World), Deb w → RdMd w w.heap.size D0 d0 q0 ds0 A0 n0 c0 xss0 → RdS w w.heap.size A1 n1 c1 xs1 → Calls Tryd.prog 8 #[.agg #[.slice D0 d0 q0, .slice A0 n0 c0], .slice A1 n1 c1] w (RetSC l L k w)) :
    Calls Tryd.prog 3 #[.agg #[.slice D0 d0 q0, .slice A0 n0 c0], .slice A1 n1 c1] w fun e w' => e = .returned (.bool true) ∧ Below w.heap.size w w' := by
  obtain ⟨w0, hw0⟩ : ∃ w0, w0 = w.alloc (.cells #[.slice D0 d0 q0, .slice A0 n0 c0] 25) := ⟨_, rfl⟩
  obtain ⟨b, hbe⟩ : ∃ b, b = w.heap.size := ⟨_, rfl⟩
  have x0 : Ext w w0 := by rw [hw0]; exact (Ext.refl w).alloc _
  have hz0 : w0.heap.size = b + 1 := by rw [hw0, hbe]; simp
  have IB0 : It (b) (b + 1) (fun V => V.heap[b]? = some (.cells #[.slice D0 d0 q0, .slice A0 n0 c0] 25 (0, 0))) w0 := by
    rw [hw0]
    have h1 := var_new (W := w.alloc (.cells #[.slice D0 d0 q0, .slice A0 n0 c0] 25)) (b := b) rfl (by subst hbe; simp)
    exact h1
  have ID0 : It 0 b (fun V => RdMd V b D0 d0 q0 ds0 A0 n0 c0 xss0) w0 := by rw [hbe]; exact (It.rdMd h0 (Nat.le_refl _)).ext x0
  have HL0 := Lib.hid h0.act.len; clear h0
  have E0 := Lib.hid e0; clear e0
  have ID1 : It 0 b (fun V => RdS V b A1 n1 c1 xs1) w0 := by rw [hbe]; exact (It.rdS h1 (Nat.le_refl _)).ext x0
  have HL1 := Lib.hid h1.len; clear h1
  have l1z : ¬ (1048576 : Int) < (n1 : Int) := by omega
  have hb1 : 1 ≤ b := by rw [hbe]; exact hT.pos
  have IT : It 0 b (fun V => Deb V) w0 := by rw [hbe]; exact (It.deb hT (Nat.le_refl _) hT.pos).ext x0
  clear hT
  have IF : It 0 b (fun V => Below b w V) w0 := by rw [hbe]; exact It.fin x0 (Nat.le_refl _)
  have HS := Lib.hid hS; clear hS
  have HI := Lib.hid hI; clear hI
  have Hw := Lib.hid hw0; clear hw0
  have Hb := Lib.hid hbe; clear hbe x0
  replace hz0 : b + 1 ≤ w0.heap.size := Nat.le_of_eq hz0.symm
  go_enter Tryd.func3, Tryd.ntmps3
  go_wp2_with fail
  rw [← Hw.out, ← Hb.out]
  have kb0 := IB0.cell (i := 0) rfl
  have kb0z := IB0.cell (i := 1) rfl
  refine (szModule_any D0 q0 d0 ds0 A0 c0 n0 b xss0 _ (1048576) ID0.holds ID0.le (by omega) (by omega) (by omega) (by omega) E0.out).mono ?_
  rintro e w1 ⟨rfl, hb⟩
  rw [show szR (1048576) (d0 + (n0 + totalL xss0)) = 1048576 - ((d0 + (n0 + totalL xss0) : Nat) : Int) from by unfold szR; rw [if_neg (by omega)]]
  clear kb0 kb0z
  have hz1 := hb.size
  replace IB0 := IB0.ext hb
  replace ID0 := ID0.ext hb
  replace ID1 := ID1.ext hb
  replace IT := IT.ext hb
  replace IF := IF.ext hb
  clear hb
  have kb0 := IB0.cell (i := 0) rfl
  have kb0z := IB0.cell (i := 1) rfl
  go_wp2_with fail
  refine (toModule_any D0 q0 d0 ds0 A0 c0 n0 xss0 _ (ID0.holds.mono ID0.le) (by omega) (by omega) (by omega)).mono ?_
  rintro e w2 ⟨D30, A30, q30, c30, rfl, ho, hb⟩
  clear kb0 kb0z
  have hz2 := hb.size
  replace IB0 := IB0.ext hb
  replace ID0 := ID0.ext hb
  replace ID1 := ID1.ext hb
  replace IT := IT.ext hb
  replace IF := IF.ext hb
  have IC0 := It.rdMd ho.rd (Nat.le_refl _)
  clear ho hb
  have kb0 := IB0.cell (i := 0) rfl
  have kb0z := IB0.cell (i := 1) rfl
  go_wp2_with fail
  refine (toS_any A1 c1 n1 xs1 _ (ID1.holds.mono ID1.le) (by omega)).mono ?_
  rintro e w3 ⟨A31, c31, rfl, ho, hb⟩
  clear kb0 kb0z
  have hz3 := hb.size
  replace IB0 := IB0.ext hb
  replace ID0 := ID0.ext hb
  replace ID1 := ID1.ext hb
  replace IT := IT.ext hb
  replace IF := IF.ext hb
  replace IC0 := IC0.ext hb
  have IC1 := It.rdS ho.rd (Nat.le_refl _)
  clear ho hb
  have kb0 := IB0.cell (i := 0) rfl
  have kb0z := IB0.cell (i := 1) rfl
  go_wp2_with fail
  refine (HS.out _ _ _ _ _ _ _ (IC0.holds.mono IC0.le) (IC1.holds.mono IC1.le)).mono ?_
  rintro e w4 ⟨AS, cS, rfl, ho, hb⟩
  clear IC0 IC1
  clear kb0 kb0z
  have hz4 := hb.size
  replace IB0 := IB0.ext hb
  replace ID0 := ID0.ext hb
  replace ID1 := ID1.ext hb
  replace IT := IT.ext hb
  replace IF := IF.ext hb
  have IRS := It.rdS ho.rd (Nat.le_refl _)
  obtain ⟨sS, hsS⟩ : ∃ s, s = w4.heap.size := ⟨_, rfl⟩
  rw [← hsS] at IRS
  replace hsS := Nat.le_of_eq hsS
  clear ho hb
  have kb0 := IB0.cell (i := 0) rfl
  have kb0z := IB0.cell (i := 1) rfl
  go_wp2_with fail
  refine (toModule_any D0 q0 d0 ds0 A0 c0 n0 xss0 _ (ID0.holds.mono ID0.le) (by omega) (by omega) (by omega)).mono ?_
  rintro e w5 ⟨D0x, A0x, q0x, c0x, rfl, ho, hb⟩
  obtain ⟨l0x, hlx⟩ : ∃ s, s = w4.heap.size := ⟨_, rfl⟩
  obtain ⟨m0x, hmx⟩ : ∃ s, s = w5.heap.size := ⟨_, rfl⟩
  rw [← hlx, ← hmx] at ho
  clear kb0 kb0z
  have hz5 := hb.size
  replace IB0 := IB0.ext hb
  replace ID0 := ID0.ext hb
  replace ID1 := ID1.ext hb
  replace IT := IT.ext hb
  replace IF := IF.ext hb
  replace IRS := IRS.ext hb
  have IO0 := It.ownMd ho (Nat.le_of_eq hmx)
  have hlx0 := Nat.le_of_eq hlx
  have hly0 := Nat.le_of_eq hlx.symm
  have hmx0 := Nat.le_of_eq hmx
  have hmy0 := Nat.le_of_eq hmx.symm
  clear ho hb hlx hmx
  go_wp2_with fail
  obtain ⟨w6, hw⟩ : ∃ V, V = w5.alloc (.cells #[.slice D0x d0 q0x, .slice A0x n0 c0x] 29) := ⟨_, rfl⟩
  obtain ⟨bx0, hbt⟩ : ∃ B, B = w5.heap.size := ⟨_, rfl⟩
  rw [← hw, ← hbt]
  have IVx0 := var_new hw hbt
  have hb := ext_new hw
  have hbtx0 := Nat.le_of_eq hbt
  have hbux0 := Nat.le_of_eq hbt.symm
  have hvx0 := IVx0.le
  clear hw hbt
  have hz6 := hb.size
  replace IB0 := IB0.ext hb
  replace ID0 := ID0.ext hb
  replace ID1 := ID1.ext hb
  replace IT := IT.ext hb
  replace IF := IF.ext hb
  replace IRS := IRS.ext hb
  replace IO0 := IO0.ext hb
  clear hb
  refine (toS_any A1 c1 n1 xs1 _ (ID1.holds.mono ID1.le) (by omega)).mono ?_
  rintro e w7 ⟨A1x, c1x, rfl, ho, hb⟩
  replace ho := ho.g
  obtain ⟨l1x, hlx⟩ : ∃ s, s = w6.heap.size := ⟨_, rfl⟩
  obtain ⟨m1x, hmx⟩ : ∃ s, s = w7.heap.size := ⟨_, rfl⟩
  rw [← hlx, ← hmx] at ho
  have hz7 := hb.size
  replace IB0 := IB0.ext hb
  replace ID0 := ID0.ext hb
  replace ID1 := ID1.ext hb
  replace IT := IT.ext hb
  replace IF := IF.ext hb
  replace IRS := IRS.ext hb
  replace IO0 := IO0.ext hb
  replace IVx0 := IVx0.ext hb
  have IO1 := It.ownG ho (Nat.le_of_eq hmx)
  have hlx1 := Nat.le_of_eq hlx
  have hly1 := Nat.le_of_eq hlx.symm
  have hmx1 := Nat.le_of_eq hmx
  have hmy1 := Nat.le_of_eq hmx.symm
  clear ho hb hlx hmx
  have kx0 := IVx0.cell (i := 0) rfl
  have kx0z := IVx0.cell (i := 1) rfl
  go_wp2_with fail
  refine (HI.out _ _ _ _ _ _ _ IT.holds (IO0.holds.rd) (IO1.holds.own.rd)).mono ?_
  rintro e w8 ⟨AG, cG, rfl, ho, hb⟩
  replace ho := ho.g
  obtain ⟨lG, hlG⟩ : ∃ s, s = w7.heap.size := ⟨_, rfl⟩
  obtain ⟨mG, hmG⟩ : ∃ s, s = w8.heap.size := ⟨_, rfl⟩
  rw [← hlG, ← hmG] at ho
  clear kx0 kx0z
  have hz8 := hb.size
  replace IB0 := IB0.ext hb
  replace ID0 := ID0.ext hb
  replace ID1 := ID1.ext hb
  replace IT := IT.ext hb
  replace IF := IF.ext hb
  replace IRS := IRS.ext hb
  replace IO0 := IO0.ext hb
  replace IVx0 := IVx0.ext hb
  replace IO1 := IO1.ext hb
  have IOG := It.ownG ho (Nat.le_of_eq hmG)
  have hlGx := Nat.le_of_eq hlG
  have hlGy := Nat.le_of_eq hlG.symm
  have hmGx := Nat.le_of_eq hmG
  have hmGy := Nat.le_of_eq hmG.symm
  clear ho hb hlG hmG
  have hnk : (k != k) = false := by simp
  go_wp2_with fail
  refine (eqSb_any AG AS cG cS l l L L _ _ _ IOG.holds.own.rd IRS.holds (by omega) (by omega)).mono ?_
  rintro e w9 ⟨rfl, hb⟩
  rw [decide_eq_true (rfl : L = L)]
  have hz9 := hb.size
  replace IB0 := IB0.ext hb
  replace ID0 := ID0.ext hb
  replace ID1 := ID1.ext hb
  replace IT := IT.ext hb
  replace IF := IF.ext hb
  replace IRS := IRS.ext hb
  replace IO0 := IO0.ext hb
  replace IVx0 := IVx0.ext hb
  replace IO1 := IO1.ext hb
  replace IOG := IOG.ext hb
  clear hb
  have kx0 := IVx0.cell (i := 0) rfl
  have kx0z := IVx0.cell (i := 1) rfl
  have kb0 := IB0.cell (i := 0) rfl
  have kb0z := IB0.cell (i := 1) rfl
  go_wp2_with fail
  have zb : b < w9.drew.heap.size := IB0.le
  have zx : bx0 < w9.drew.heap.size := IVx0.le
  have Ed := Lib.hid (Ext.drew (Ext.refl w9))
  have Xd := Lib.hid (IO0.ext Ed.out)
  have Dd := Lib.hid (ID0.ext Ed.out)
  go_region_held3 (fun w' => w'.cell? ⟨bx0, 0, none⟩ = some (.slice D0x d0 q0x) ∧ w'.cell? ⟨bx0, 1, none⟩ = some (.slice A0x n0 c0x) ∧ w'.cell? ⟨b, 0, none⟩ = some (.slice D0 d0 q0) ∧ w'.cell? ⟨b, 1, none⟩ = some (.slice A0 n0 c0)) (first | exact ⟨kx0, kx0z, kb0, kb0z⟩ | exact ⟨kx0p, kx0zp, kb0p, kb0zp⟩ | exact ⟨kx0q, kx0zq, kb0q, kb0zq⟩)
    (first
      | (go_at_call 6
         refine (toModule_any D0 q0 d0 ds0 A0 c0 n0 xss0 _ (Dd.out.holds.mono Dd.out.le) (by omega) (by omega) (by omega)).mono ?_
         rintro e u0 ⟨D0y, A0y, q0y, c0y, rfl, ho, hb⟩
         have kx0p := bcell hb zx kx0
         have kx0zp := bcell hb zx kx0z
         have kb0p := bcell hb zb kb0
         have kb0zp := bcell hb zb kb0z
         have zbp := Nat.lt_of_lt_of_le zb hb.size
         have zxp := Nat.lt_of_lt_of_le zx hb.size
         have Ry := Lib.hid ho.rd
         have Xp := Lib.hid (Xd.out.ext hb)
         have Ep := Lib.hid (Ed.out.trans hb)
         clear ho hb)
      | (go_at_call 10
         refine (eqModule_same D0x D0y A0x A0y q0x q0y c0x c0y d0 n0 ds0 xss0 _ _ _ Xp.out.holds.rd.ds Ry.out.ds Xp.out.holds.rd.act Ry.out.act (Nat.le_refl _) (Nat.le_refl _) (by omega) (by omega) (by omega)).mono ?_
         rintro e w10 ⟨rfl, hb⟩
         have kx0q := bcell hb zxp kx0p
         have kx0zq := bcell hb zxp kx0zp
         have kb0q := bcell hb zbp kb0p
         have kb0zq := bcell hb zbp kb0zp
         have Eq := Lib.hid (Ep.out.trans hb)
         clear hb
         skip))
  have hb := Eq.out
  clear kx0 kx0z kb0 kb0z kx0p kx0zp kb0p kb0zp kx0q kx0zq kb0q kb0zq zb zx zbp zxp Xd Dd Ed Ry Xp Ep Eq
  have hz10 := hb.size
  replace IB0 := IB0.ext hb
  replace ID0 := ID0.ext hb
  replace ID1 := ID1.ext hb
  replace IT := IT.ext hb
  replace IF := IF.ext hb
  replace IRS := IRS.ext hb
  replace IO0 := IO0.ext hb
  replace IVx0 := IVx0.ext hb
  replace IO1 := IO1.ext hb
  replace IOG := IOG.ext hb
  clear hb
  go_wp2_with fail
  refine (toS_any A1 c1 n1 xs1 _ (ID1.holds.mono ID1.le) (by omega)).mono ?_
  rintro e w11 ⟨A1y, c1y, rfl, ho, hb⟩
  have hz11 := hb.size
  replace IB0 := IB0.ext hb
  replace ID0 := ID0.ext hb
  replace ID1 := ID1.ext hb
  replace IT := IT.ext hb
  replace IF := IF.ext hb
  replace IRS := IRS.ext hb
  replace IO0 := IO0.ext hb
  replace IVx0 := IVx0.ext hb
  replace IO1 := IO1.ext hb
  replace IOG := IOG.ext hb
  have IC1 := It.rdS ho.rd (Nat.le_refl _)
  clear ho hb
  go_wp2_with fail
  refine (eqSb_any A1x A1y c1x c1y n1 n1 xs1 xs1 _ _ _ IO1.holds.own.rd IC1.holds (by omega) (by omega)).mono ?_
  rintro e w12 ⟨rfl, hb⟩
  rw [decide_eq_true (rfl : xs1 = xs1)]
  clear IC1
  have hz12 := hb.size
  replace IB0 := IB0.ext hb
  replace ID0 := ID0.ext hb
  replace ID1 := ID1.ext hb
  replace IT := IT.ext hb
  replace IF := IF.ext hb
  replace IRS := IRS.ext hb
  replace IO0 := IO0.ext hb
  replace IVx0 := IVx0.ext hb
  replace IO1 := IO1.ext hb
  replace IOG := IOG.ext hb
  clear hb
  have kx0 := IVx0.cell (i := 0) rfl
  have kx0z := IVx0.cell (i := 1) rfl
  go_wp2_with fail
  refine (markMod_any D0x q0x d0 ds0 A0x c0x n0 xss0 _ _ _ (1) IO0.holds IO0.le (by omega) (by omega) (by omega) (by omega) (by omega) (by omega)).mono ?_
  rintro e w13 ⟨rfl, hm⟩
  have ho : True := trivial
  clear ho
  clear kx0 kx0z
  have hz13 := hm.size
  replace IB0 := IB0.mid hm (by omega)
  replace ID0 := ID0.mid hm (by omega)
  replace ID1 := ID1.mid hm (by omega)
  replace IT := IT.mid hm (by omega)
  replace IF := IF.mid hm (by omega)
  replace IRS := IRS.mid hm (by omega)
  replace IO1 := IO1.mid hm (by omega)
  replace IOG := IOG.mid hm (by omega)
  clear hm IO0 IVx0
  go_wp2_with fail
  refine (markSg_any A1x c1x n1 xs1 _ _ _ (1 + d0 + (totalL xss0 : Int)) IO1.holds (by omega) (by omega) (by omega)).mono ?_
  rintro e w14 ⟨rfl, ho, hm⟩
  clear ho
  have hz14 := hm.size
  replace IB0 := IB0.mid hm (by omega)
  replace ID0 := ID0.mid hm (by omega)
  replace ID1 := ID1.mid hm (by omega)
  replace IT := IT.mid hm (by omega)
  replace IF := IF.mid hm (by omega)
  replace IRS := IRS.mid hm (by omega)
  replace IOG := IOG.mid hm (by omega)
  clear hm IO1
  go_wp2_with fail
  refine (eqSb_any AG AS cG cS l l L L _ _ _ IOG.holds.own.rd IRS.holds (by omega) (by omega)).mono ?_
  rintro e w15 ⟨rfl, hb⟩
  rw [decide_eq_true (rfl : L = L)]
  have hz15 := hb.size
  replace IB0 := IB0.ext hb
  replace ID0 := ID0.ext hb
  replace ID1 := ID1.ext hb
  replace IT := IT.ext hb
  replace IF := IF.ext hb
  replace IRS := IRS.ext hb
  replace IOG := IOG.ext hb
  clear hb
  go_wp2_with fail
  refine (markSg_any AG cG l L _ _ _ 1 IOG.holds (by omega) (by omega) (by omega)).mono ?_
  rintro e w16 ⟨rfl, ho, hm⟩
  have hz16 := hm.size
  replace IB0 := IB0.mid hm (by omega)
  replace ID0 := ID0.mid hm (by omega)
  replace ID1 := ID1.mid hm (by omega)
  replace IT := IT.mid hm (by omega)
  replace IF := IF.mid hm (by omega)
  replace IRS := IRS.mid hm (by omega)
  have hmz : mG ≤ w16.heap.size := Nat.le_trans IOG.le hm.size
  replace IOG := It.ownG ho hmz
  clear hm ho hmz
  go_wp2_with fail
  refine (heldSb_any AG cG l _ _ 1 IOG.holds.own.rd (by omega) (by omega) (by omega)).mono ?_
  rintro e w17 ⟨rfl, hb⟩
  have hz17 := hb.size
  replace IB0 := IB0.ext hb
  replace ID0 := ID0.ext hb
  replace ID1 := ID1.ext hb
  replace IT := IT.ext hb
  replace IF := IF.ext hb
  replace IRS := IRS.ext hb
  replace IOG := IOG.ext hb
  clear hb
  have hmq : ((1 + (l : Int)) != (1 + (l : Int))) = false := by simp
  have kb0 := IB0.cell (i := 0) rfl
  have kb0z := IB0.cell (i := 1) rfl
  go_wp2_with fail
  refine (toModule_any D0 q0 d0 ds0 A0 c0 n0 xss0 _ (ID0.holds.mono ID0.le) (by omega) (by omega) (by omega)).mono ?_
  rintro e w18 ⟨D30, A30, q30, c30, rfl, ho, hb⟩
  clear kb0 kb0z
  have hz18 := hb.size
  replace IB0 := IB0.ext hb
  replace ID0 := ID0.ext hb
  replace ID1 := ID1.ext hb
  replace IT := IT.ext hb
  replace IF := IF.ext hb
  replace IRS := IRS.ext hb
  replace IOG := IOG.ext hb
  have IC0 := It.rdMd ho.rd (Nat.le_refl _)
  clear ho hb
  have kb0 := IB0.cell (i := 0) rfl
  have kb0z := IB0.cell (i := 1) rfl
  go_wp2_with fail
  refine (toS_any A1 c1 n1 xs1 _ (ID1.holds.mono ID1.le) (by omega)).mono ?_
  rintro e w19 ⟨A31, c31, rfl, ho, hb⟩
  clear kb0 kb0z
  have hz19 := hb.size
  replace IB0 := IB0.ext hb
  replace ID0 := ID0.ext hb
  replace ID1 := ID1.ext hb
  replace IT := IT.ext hb
  replace IF := IF.ext hb
  replace IRS := IRS.ext hb
  replace IOG := IOG.ext hb
  replace IC0 := IC0.ext hb
  have IC1 := It.rdS ho.rd (Nat.le_refl _)
  clear ho hb
  have kb0 := IB0.cell (i := 0) rfl
  have kb0z := IB0.cell (i := 1) rfl
  go_wp2_with fail
  refine (HI.out _ _ _ _ _ _ _ IT.holds (IC0.holds.mono IC0.le) (IC1.holds.mono IC1.le)).mono ?_
  rintro e w20 ⟨AH, cH, rfl, ho, hb⟩
  clear IC0 IC1
  clear kb0 kb0z
  have hz20 := hb.size
  replace IB0 := IB0.ext hb
  replace ID0 := ID0.ext hb
  replace ID1 := ID1.ext hb
  replace IT := IT.ext hb
  replace IF := IF.ext hb
  replace IRS := IRS.ext hb
  replace IOG := IOG.ext hb
  have IRH := It.rdS ho.rd (Nat.le_refl _)
  obtain ⟨sH, hsH⟩ : ∃ s, s = w20.heap.size := ⟨_, rfl⟩
  rw [← hsH] at IRH
  replace hsH := Nat.le_of_eq hsH
  clear ho hb
  go_wp2_with fail
  refine (eqSb_any AH AS cH cS l l L L _ _ _ IRH.holds IRS.holds (by omega) (by omega)).mono ?_
  rintro e w21 ⟨rfl, hb⟩
  rw [decide_eq_true (rfl : L = L)]
  have hz21 := hb.size
  replace IB0 := IB0.ext hb
  replace ID0 := ID0.ext hb
  replace ID1 := ID1.ext hb
  replace IT := IT.ext hb
  replace IF := IF.ext hb
  replace IRS := IRS.ext hb
  replace IOG := IOG.ext hb
  replace IRH := IRH.ext hb
  clear hb
  go_wp2_with fail
  refine (heldSb_any AG cG l _ _ 1 IOG.holds.own.rd (by omega) (by omega) (by omega)).mono ?_
  rintro e w22 ⟨rfl, hb⟩
  have hz22 := hb.size
  replace IB0 := IB0.ext hb
  replace ID0 := ID0.ext hb
  replace ID1 := ID1.ext hb
  replace IT := IT.ext hb
  replace IF := IF.ext hb
  replace IRS := IRS.ext hb
  replace IOG := IOG.ext hb
  replace IRH := IRH.ext hb
  clear hb
  go_wp2_with fail
  go_ret
  exact ⟨rfl, by rw [← Hb.out]; exact IF.holds⟩

theorem bigSDoubleOf1 (D0 : Option Addr) (d0 q0 : Nat) (ds0 : List Int) (A0 : Option Addr) (n0 c0 : Nat) (xss0 : List (List Int)) (A1 : Option Addr) (n1 c1 : Nat) (xs1 : List Int) (w : World) (hl : ¬ n1 ≤ 1048576) :
    Calls Tryd.prog 3 #[.agg #[.slice D0 d0 q0, .slice A0 n0 c0], .slice A1 n1 c1] w fun e w' => e = .returned (.bool true) ∧ Below w.heap.size w w' := by
  have Hx := Lib.hid (show Below w.heap.size w ((w.alloc (.cells #[.slice D0 d0 q0, .slice A0 n0 c0] 25))) from (Ext.refl w).alloc _)
  have lz : (1048576 : Int) < (n1 : Int) := by omega
  go_enter Tryd.func3, Tryd.ntmps3
  go_wp2_with fail
  go_ret
  exact ⟨rfl, Hx.out⟩

theorem bigDoubleOf0 (D0 : Option Addr) (d0 q0 : Nat) (ds0 : List Int) (A0 : Option Addr) (n0 c0 : Nat) (xss0 : List (List Int)) (A1 : Option Addr) (n1 c1 : Nat) (xs1 : List Int) (w : World) (h0 : RdMd w w.heap.size D0 d0 q0 ds0 A0 n0 c0 xss0) (y0 : d0 ≤ 9223372036854775807) (m0 : n0 ≤ 9223372036854775807) (e0 : ∀ x ∈ xss0, x.length ≤ 9223372036854775807) (l1 : n1 ≤ 1048576) (hs : ¬ (d0 + (n0 + totalL xss0)) ≤ 1048576) :
    Calls Tryd.prog 3 #[.agg #[.slice D0 d0 q0, .slice A0 n0 c0], .slice A1 n1 c1] w fun e w' => e = .returned (.bool true) ∧ Below w.heap.size w w' := by
  obtain ⟨w0, hw0⟩ : ∃ w0, w0 = w.alloc (.cells #[.slice D0 d0 q0, .slice A0 n0 c0] 25) := ⟨_, rfl⟩
  obtain ⟨b, hbe⟩ : ∃ b, b = w.heap.size := ⟨_, rfl⟩
  have x0 : Ext w w0 := by rw [hw0]; exact (Ext.refl w).alloc _
  have hz0 : w0.heap.size = b + 1 := by rw [hw0, hbe]; simp
  have IB0 : It (b) (b + 1) (fun V => V.heap[b]? = some (.cells #[.slice D0 d0 q0, .slice A0 n0 c0] 25 (0, 0))) w0 := by
    rw [hw0]
    have h1 := var_new (W := w.alloc (.cells #[.slice D0 d0 q0, .slice A0 n0 c0] 25)) (b := b) rfl (by subst hbe; simp)
    exact h1
  have l1z : ¬ (1048576 : Int) < (n1 : Int) := by omega
  skip
  have ID0 : It 0 b (fun V => RdMd V b D0 d0 q0 ds0 A0 n0 c0 xss0) w0 := by rw [hbe]; exact (It.rdMd h0 (Nat.le_refl _)).ext x0
  clear h0
  have E0 := Lib.hid e0; clear e0
  have IF : It 0 b (fun V => Below b w V) w0 := by rw [hbe]; exact It.fin x0 (Nat.le_refl _)
  have Hw := Lib.hid hw0; clear hw0
  have Hb := Lib.hid hbe; clear hbe x0
  replace hz0 : b + 1 ≤ w0.heap.size := Nat.le_of_eq hz0.symm
  go_enter Tryd.func3, Tryd.ntmps3
  go_wp2_with fail
  rw [← Hw.out, ← Hb.out]
  have kb0 := IB0.cell (i := 0) rfl
  have kb0z := IB0.cell (i := 1) rfl
  refine (szModule_any D0 q0 d0 ds0 A0 c0 n0 b xss0 _ (1048576) ID0.holds ID0.le (by omega) (by omega) y0 m0 E0.out).mono ?_
  rintro e w1 ⟨rfl, hb⟩
  rw [show szR (1048576) (d0 + (n0 + totalL xss0)) = -1 from by unfold szR; rw [if_pos (by omega)]]
  clear kb0 kb0z
  have hz1 := hb.size
  replace IB0 := IB0.ext hb
  replace ID0 := ID0.ext hb
  replace IF := IF.ext hb
  clear hb
  go_wp2_with fail
  go_ret
  exact ⟨rfl, by rw [← Hb.out]; exact IF.holds⟩
end Go.Proofs.YtdpkhgkoeoiemaaDoor
