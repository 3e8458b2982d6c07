/- The law FnExactUnstableQuotient, over whatever both sides answer alike. -/
import Derived.Test.YtejojliljplcdaaGreatDoorLawG
import Derived.Test.YtejojliljplcdaaGreatDoorDebK
import Derived.Test.YtejojliljplcdaaGreatDoorLawK
namespace Go.Proofs.YtejojliljplcdaaGreatDoor
open Go.RowKit
set_option linter.unusedVariables false

set_option maxRecDepth 100000 in
set_option maxHeartbeats 4000000 in
theorem coreUnstableQuotient (D0 : Option Addr) (d0 q0 : Nat) (ds0 : List Int) (A0 : Option Addr) (n0 c0 : Nat) (xss0 : List (List Int)) (D : List Int) (AA II : List (List Int)) (k : Int) (hDl : D.length ≤ 1000) (hl : AA.length ≤ 100000) (ht : totalL AA ≤ 10000000) (hIl : II.length ≤ 1000) (htI : totalL II ≤ 10000000) (w : World) (hT : Deb w) (h0 : RdMd w w.heap.size D0 d0 q0 ds0 A0 n0 c0 xss0) (e0 : ∀ x ∈ xss0, x.length ≤ 9223372036854775807) (hs : (d0 + (n0 + totalL xss0)) ≤ 1048576)
    (hS : ∀ (D0 A0 : Option Addr) (q0 c0 : Nat) (w : World), RdMd w w.heap.size D0 d0 q0 ds0 A0 n0 c0 xss0 → Calls Tryz.prog 7 #[.agg #[.slice D0 d0 q0, .slice A0 n0 c0]] w (RetG2 D AA II k w))
    (hI : ∀ (D0 A0 : Option Addr) (q0 c0 : Nat) (w : World), Deb w → RdMd w w.heap.size D0 d0 q0 ds0 A0 n0 c0 xss0 → Calls Tryz.prog 9 #[.agg #[.slice D0 d0 q0, .slice A0 n0 c0]] w (OwG2 D AA II k w)) :
    Calls Tryz.prog 3 #[.agg #[.slice D0 d0 q0, .slice A0 n0 c0]] w fun e w' => e = .returned (.bool true) ∧ Below w.heap.size w w' := by
  obtain ⟨w0, hw0⟩ : ∃ w0, w0 = w.alloc (.cells #[.slice D0 d0 q0, .slice A0 n0 c0] 25) := ⟨_, rfl⟩
  obtain ⟨b, hbe⟩ : ∃ b, b = w.heap.size := ⟨_, rfl⟩
  have x0 : Ext w w0 := by rw [hw0]; exact (Ext.refl w).alloc _
  have hz0 : w0.heap.size = b + 1 := by rw [hw0, hbe]; simp
  have IB0 : It (b) (b + 1) (fun V => V.heap[b]? = some (.cells #[.slice D0 d0 q0, .slice A0 n0 c0] 25 (0, 0))) w0 := by
    rw [hw0]
    have h1 := var_new (W := w.alloc (.cells #[.slice D0 d0 q0, .slice A0 n0 c0] 25)) (b := b) rfl (by subst hbe; simp)
    exact h1
  have ID0 : It 0 b (fun V => RdMd V b D0 d0 q0 ds0 A0 n0 c0 xss0) w0 := by rw [hbe]; exact (It.rdMd h0 (Nat.le_refl _)).ext x0
  have HL0 := Lib.hid h0.act.len; clear h0
  have E0 := Lib.hid e0; clear e0
  have IT : It 0 b (fun V => Deb V) w0 := by rw [hbe]; exact (It.deb hT (Nat.le_refl _) hT.pos).ext x0
  clear hT
  have IF : It 0 b (fun V => Below b w V) w0 := by rw [hbe]; exact It.fin x0 (Nat.le_refl _)
  have HS := Lib.hid hS; clear hS
  have HI := Lib.hid hI; clear hI
  have Hw := Lib.hid hw0; clear hw0
  have Hb := Lib.hid hbe; clear hbe x0
  replace hz0 : b + 1 ≤ w0.heap.size := Nat.le_of_eq hz0.symm
  go_enter Tryz.func3, Tryz.ntmps3
  go_wp2_with fail
  rw [← Hw.out, ← Hb.out]
  have kb0 := IB0.cell (i := 0) rfl
  have kb0z := IB0.cell (i := 1) rfl
  refine (szModule_any D0 q0 d0 ds0 A0 c0 n0 b xss0 _ (1048576) ID0.holds ID0.le (by omega) (by omega) (by omega) (by omega) E0.out).mono ?_
  rintro e w1 ⟨rfl, hb⟩
  rw [show szR (1048576) (d0 + (n0 + totalL xss0)) = 1048576 - ((d0 + (n0 + totalL xss0) : Nat) : Int) from by unfold szR; rw [if_neg (by omega)]]
  clear kb0 kb0z
  have hz1 := hb.size
  replace IB0 := IB0.ext hb
  replace ID0 := ID0.ext hb
  replace IT := IT.ext hb
  replace IF := IF.ext hb
  clear hb
  have kb0 := IB0.cell (i := 0) rfl
  have kb0z := IB0.cell (i := 1) rfl
  go_wp2_with fail
  refine (toModule_any D0 q0 d0 ds0 A0 c0 n0 xss0 _ (ID0.holds.mono ID0.le) (by omega) (by omega) (by omega)).mono ?_
  rintro e w2 ⟨D30, A30, q30, c30, rfl, ho, hb⟩
  clear kb0 kb0z
  have hz2 := hb.size
  replace IB0 := IB0.ext hb
  replace ID0 := ID0.ext hb
  replace IT := IT.ext hb
  replace IF := IF.ext hb
  have IC0 := It.rdMd ho.rd (Nat.le_refl _)
  clear ho hb
  have kb0 := IB0.cell (i := 0) rfl
  have kb0z := IB0.cell (i := 1) rfl
  go_wp2_with fail
  refine (HS.out _ _ _ _ _ (IC0.holds.mono IC0.le)).mono ?_
  rintro e w3 ⟨RS, rS, AS, cS, IS, iS, rfl, ho, hj, hb⟩
  clear IC0
  clear kb0 kb0z
  have hz3 := hb.size
  replace IB0 := IB0.ext hb
  replace ID0 := ID0.ext hb
  replace IT := IT.ext hb
  replace IF := IF.ext hb
  have IRS := It.rdMd ho (Nat.le_refl _)
  have IJS := It.rdL hj (Nat.le_refl _)
  obtain ⟨sS, hsS⟩ : ∃ s, s = w3.heap.size := ⟨_, rfl⟩
  rw [← hsS] at IRS IJS
  have hseS := Lib.hid hsS
  replace hsS := Nat.le_of_eq hsS
  clear ho hb hj
  have kb0 := IB0.cell (i := 0) rfl
  have kb0z := IB0.cell (i := 1) rfl
  have zkb0 := Nat.lt_of_succ_le IB0.le
  go_wp2_with fail
  obtain ⟨w4, hw⟩ : ∃ V, V = w3.alloc (.cells #[.slice RS D.length rS, .slice AS AA.length cS] 27) := ⟨_, rfl⟩
  obtain ⟨bS, hbt⟩ : ∃ B, B = w3.heap.size := ⟨_, rfl⟩
  rw [← hw, ← hbt]
  have IVS := var_new hw hbt
  have hb := ext_new hw
  have hbtS := Nat.le_of_eq hbt
  have hbuS := Nat.le_of_eq hbt.symm
  have hvS := IVS.le
  clear hw hbt
  clear kb0 kb0z zkb0
  have hz4 := hb.size
  replace IB0 := IB0.ext hb
  replace ID0 := ID0.ext hb
  replace IT := IT.ext hb
  replace IF := IF.ext hb
  replace IRS := IRS.ext hb
  replace IJS := IJS.ext hb
  clear hb
  refine (toModule_any D0 q0 d0 ds0 A0 c0 n0 xss0 _ (ID0.holds.mono ID0.le) (by omega) (by omega) (by omega)).mono ?_
  rintro e w5 ⟨D0x, A0x, q0x, c0x, rfl, ho, hb⟩
  obtain ⟨l0x, hlx⟩ : ∃ s, s = w4.heap.size := ⟨_, rfl⟩
  obtain ⟨m0x, hmx⟩ : ∃ s, s = w5.heap.size := ⟨_, rfl⟩
  rw [← hlx, ← hmx] at ho
  have hz5 := hb.size
  replace IB0 := IB0.ext hb
  replace ID0 := ID0.ext hb
  replace IT := IT.ext hb
  replace IF := IF.ext hb
  replace IJS := IJS.ext hb
  replace IVS := IVS.ext hb
  replace IRS := IRS.ext hb
  have IO0 := It.ownMd ho (Nat.le_of_eq hmx)
  have hlx0 := Nat.le_of_eq hlx
  have hly0 := Nat.le_of_eq hlx.symm
  have hmx0 := Nat.le_of_eq hmx
  have hmy0 := Nat.le_of_eq hmx.symm
  clear ho hb hlx hmx
  go_wp2_with fail
  obtain ⟨w6, hw⟩ : ∃ V, V = w5.alloc (.cells #[.slice D0x d0 q0x, .slice A0x n0 c0x] 27) := ⟨_, rfl⟩
  obtain ⟨bx0, hbt⟩ : ∃ B, B = w5.heap.size := ⟨_, rfl⟩
  rw [← hw, ← hbt]
  have IVx0 := var_new hw hbt
  have hb := ext_new hw
  have hbtx0 := Nat.le_of_eq hbt
  have hbux0 := Nat.le_of_eq hbt.symm
  have hvx0 := IVx0.le
  clear hw hbt
  have hz6 := hb.size
  replace IB0 := IB0.ext hb
  replace ID0 := ID0.ext hb
  replace IT := IT.ext hb
  replace IF := IF.ext hb
  replace IJS := IJS.ext hb
  replace IVS := IVS.ext hb
  replace IRS := IRS.ext hb
  replace IO0 := IO0.ext hb
  clear hb
  refine (HI.out _ _ _ _ _ IT.holds (IO0.holds.rd)).mono ?_
  rintro e w7 ⟨RG, rG, AG, cG, IG, iG, kG, rfl, hk1, hk2, ho, hj, hb⟩
  obtain ⟨lG, hlG⟩ : ∃ s, s = w6.heap.size := ⟨_, rfl⟩
  obtain ⟨mG, hmG⟩ : ∃ s, s = w7.heap.size := ⟨_, rfl⟩
  rw [← hlG] at ho hk1
  rw [← hmG] at hj hk2
  have hz7 := hb.size
  replace IB0 := IB0.ext hb
  replace ID0 := ID0.ext hb
  replace IT := IT.ext hb
  replace IF := IF.ext hb
  replace IJS := IJS.ext hb
  replace IVS := IVS.ext hb
  replace IRS := IRS.ext hb
  replace IO0 := IO0.ext hb
  replace IVx0 := IVx0.ext hb
  have IOG := It.ownMd ho (by omega)
  have IOI := It.ownM hj (Nat.le_of_eq hmG)
  have hlGx := Nat.le_of_eq hlG
  have hlGy := Nat.le_of_eq hlG.symm
  have hmGx := Nat.le_of_eq hmG
  have hmGy := Nat.le_of_eq hmG.symm
  clear ho hb hlG hmG hj
  have ks := IVS.cell (i := 0) rfl
  have ksz := IVS.cell (i := 1) rfl
  have zks := Nat.lt_of_succ_le IVS.le
  go_wp2_with fail
  obtain ⟨w8, hw⟩ : ∃ V, V = w7.alloc (.cells #[.slice RG D.length rG, .slice AG AA.length cG] 27) := ⟨_, rfl⟩
  obtain ⟨bG, hbt⟩ : ∃ B, B = w7.heap.size := ⟨_, rfl⟩
  rw [← hw, ← hbt]
  have IVG := var_new hw hbt
  have hb := ext_new hw
  have hbtG := Nat.le_of_eq hbt
  have hbuG := Nat.le_of_eq hbt.symm
  have hvG := IVG.le
  clear hw hbt
  clear ks ksz zks
  have hz8 := hb.size
  replace IB0 := IB0.ext hb
  replace ID0 := ID0.ext hb
  replace IT := IT.ext hb
  replace IF := IF.ext hb
  replace IJS := IJS.ext hb
  replace IVS := IVS.ext hb
  replace IRS := IRS.ext hb
  replace IO0 := IO0.ext hb
  replace IVx0 := IVx0.ext hb
  replace IOG := IOG.ext hb
  replace IOI := IOI.ext hb
  clear hb
  have hnk : (k != k) = false := by simp
  refine (eqModule_same RG RS AG AS rG rS cG cS D.length AA.length D AA _ _ _ IOG.holds.rd.ds IRS.holds.ds IOG.holds.rd.act IRS.holds.act (Nat.le_refl _) IRS.le (by omega) (by omega) (by omega)).mono ?_
  rintro e w9 ⟨rfl, hb⟩
  have hz9 := hb.size
  replace IB0 := IB0.ext hb
  replace ID0 := ID0.ext hb
  replace IT := IT.ext hb
  replace IF := IF.ext hb
  replace IJS := IJS.ext hb
  replace IVS := IVS.ext hb
  replace IRS := IRS.ext hb
  replace IO0 := IO0.ext hb
  replace IVx0 := IVx0.ext hb
  replace IOG := IOG.ext hb
  replace IOI := IOI.ext hb
  replace IVG := IVG.ext hb
  clear hb
  go_wp2_with fail
  refine (eqLb_any IG IS iG iS II.length II.length II II _ _ _ IOI.holds.own.rd IJS.holds (by omega) (by omega) (by omega) (by omega)).mono ?_
  rintro e w10 ⟨rfl, hb⟩
  rw [decide_eq_true (rfl : II = II)]
  have hz10 := hb.size
  replace IB0 := IB0.ext hb
  replace ID0 := ID0.ext hb
  replace IT := IT.ext hb
  replace IF := IF.ext hb
  replace IJS := IJS.ext hb
  replace IVS := IVS.ext hb
  replace IRS := IRS.ext hb
  replace IO0 := IO0.ext hb
  replace IVx0 := IVx0.ext hb
  replace IOG := IOG.ext hb
  replace IOI := IOI.ext hb
  replace IVG := IVG.ext hb
  clear hb
  have kx0 := IVx0.cell (i := 0) rfl
  have kx0z := IVx0.cell (i := 1) rfl
  have kb0 := IB0.cell (i := 0) rfl
  have kb0z := IB0.cell (i := 1) rfl
  go_wp2_with fail
  have zb : b < w10.drew.heap.size := IB0.le
  have zx : bx0 < w10.drew.heap.size := IVx0.le
  have Ed := Lib.hid (Ext.drew (Ext.refl w10))
  have Xd := Lib.hid (IO0.ext Ed.out)
  have Dd := Lib.hid (ID0.ext Ed.out)
  go_region_held3 (fun w' => w'.cell? ⟨bx0, 0, none⟩ = some (.slice D0x d0 q0x) ∧ w'.cell? ⟨bx0, 1, none⟩ = some (.slice A0x n0 c0x) ∧ w'.cell? ⟨b, 0, none⟩ = some (.slice D0 d0 q0) ∧ w'.cell? ⟨b, 1, none⟩ = some (.slice A0 n0 c0)) (first | exact ⟨kx0, kx0z, kb0, kb0z⟩ | exact ⟨kx0p, kx0zp, kb0p, kb0zp⟩ | exact ⟨kx0q, kx0zq, kb0q, kb0zq⟩)
    (first
      | (go_at_call 8
         refine (toModule_any D0 q0 d0 ds0 A0 c0 n0 xss0 _ (Dd.out.holds.mono Dd.out.le) (by omega) (by omega) (by omega)).mono ?_
         rintro e u0 ⟨D0y, A0y, q0y, c0y, rfl, ho, hb⟩
         have kx0p := bcell hb zx kx0
         have kx0zp := bcell hb zx kx0z
         have kb0p := bcell hb zb kb0
         have kb0zp := bcell hb zb kb0z
         have zbp := Nat.lt_of_lt_of_le zb hb.size
         have zxp := Nat.lt_of_lt_of_le zx hb.size
         have Ry := Lib.hid ho.rd
         have Xp := Lib.hid (Xd.out.ext hb)
         have Ep := Lib.hid (Ed.out.trans hb)
         clear ho hb)
      | (go_at_call 10
         refine (eqModule_same D0x D0y A0x A0y q0x q0y c0x c0y d0 n0 ds0 xss0 _ _ _ Xp.out.holds.rd.ds Ry.out.ds Xp.out.holds.rd.act Ry.out.act (Nat.le_refl _) (Nat.le_refl _) (by omega) (by omega) (by omega)).mono ?_
         rintro e w11 ⟨rfl, hb⟩
         have kx0q := bcell hb zxp kx0p
         have kx0zq := bcell hb zxp kx0zp
         have kb0q := bcell hb zbp kb0p
         have kb0zq := bcell hb zbp kb0zp
         have Eq := Lib.hid (Ep.out.trans hb)
         clear hb
         skip))
  have hb := Eq.out
  clear kx0 kx0z kb0 kb0z kx0p kx0zp kb0p kb0zp kx0q kx0zq kb0q kb0zq zb zx zbp zxp Xd Dd Ed Ry Xp Ep Eq
  have hz11 := hb.size
  replace IB0 := IB0.ext hb
  replace ID0 := ID0.ext hb
  replace IT := IT.ext hb
  replace IF := IF.ext hb
  replace IJS := IJS.ext hb
  replace IVS := IVS.ext hb
  replace IRS := IRS.ext hb
  replace IO0 := IO0.ext hb
  replace IVx0 := IVx0.ext hb
  replace IOG := IOG.ext hb
  replace IOI := IOI.ext hb
  replace IVG := IVG.ext hb
  clear hb
  have kx0 := IVx0.cell (i := 0) rfl
  have kx0z := IVx0.cell (i := 1) rfl
  go_wp2_with fail
  refine (markMod_any D0x q0x d0 ds0 A0x c0x n0 xss0 _ _ _ (1) IO0.holds IO0.le (by omega) (by omega) (by omega) (by omega) (by omega) (by omega)).mono ?_
  rintro e w12 ⟨rfl, hm⟩
  have ho : True := trivial
  clear ho
  clear kx0 kx0z
  have hz12 := hm.size
  replace IB0 := IB0.mid hm (by omega)
  replace ID0 := ID0.mid hm (by omega)
  replace IT := IT.mid hm (by omega)
  replace IF := IF.mid hm (by omega)
  replace IJS := IJS.mid hm (by omega)
  replace IVS := IVS.mid hm (by omega)
  replace IRS := IRS.mid hm (by omega)
  replace IOG := IOG.mid hm (by omega)
  replace IOI := IOI.mid hm (by omega)
  replace IVG := IVG.mid hm (by omega)
  clear hm IO0 IVx0
  have kg := IVG.cell (i := 0) rfl
  have kgz := IVG.cell (i := 1) rfl
  have ks := IVS.cell (i := 0) rfl
  have ksz := IVS.cell (i := 1) rfl
  go_wp2_with fail
  refine (eqModule_same RG RS AG AS rG rS cG cS D.length AA.length D AA _ _ _ IOG.holds.rd.ds IRS.holds.ds IOG.holds.rd.act IRS.holds.act (Nat.le_refl _) IRS.le (by omega) (by omega) (by omega)).mono ?_
  rintro e w13 ⟨rfl, hb⟩
  clear kg kgz ks ksz
  have hz13 := hb.size
  replace IB0 := IB0.ext hb
  replace ID0 := ID0.ext hb
  replace IT := IT.ext hb
  replace IF := IF.ext hb
  replace IJS := IJS.ext hb
  replace IVS := IVS.ext hb
  replace IRS := IRS.ext hb
  replace IOG := IOG.ext hb
  replace IOI := IOI.ext hb
  replace IVG := IVG.ext hb
  clear hb
  go_wp2_with fail
  refine (eqLb_any IG IS iG iS II.length II.length II II _ _ _ IOI.holds.own.rd IJS.holds (by omega) (by omega) (by omega) (by omega)).mono ?_
  rintro e w14 ⟨rfl, hb⟩
  rw [decide_eq_true (rfl : II = II)]
  have hz14 := hb.size
  replace IB0 := IB0.ext hb
  replace ID0 := ID0.ext hb
  replace IT := IT.ext hb
  replace IF := IF.ext hb
  replace IJS := IJS.ext hb
  replace IVS := IVS.ext hb
  replace IRS := IRS.ext hb
  replace IOG := IOG.ext hb
  replace IOI := IOI.ext hb
  replace IVG := IVG.ext hb
  clear hb
  have kg := IVG.cell (i := 0) rfl
  have kgz := IVG.cell (i := 1) rfl
  go_wp2_with fail
  obtain ⟨MG, hM1, hM2, hM3, hM4⟩ := IOG.holds.split
  refine (markModule_any RG AG D.length rG AA.length cG D AA _ _ _ _ 1 hM3 hM4 hM1 hM2 IOG.le (by omega) (by omega) (by omega) (by omega) (by omega) (by omega)).mono ?_
  rintro e w15 ⟨rfl, ho1, ho2, hm⟩
  clear kg kgz
  have hz15 := hm.size
  replace IB0 := IB0.mid hm (by omega)
  replace ID0 := ID0.mid hm (by omega)
  replace IT := IT.mid hm (by omega)
  replace IF := IF.mid hm (by omega)
  replace IJS := IJS.mid hm (by omega)
  replace IVS := IVS.mid hm (by omega)
  replace IRS := IRS.mid hm (by omega)
  replace IOI := IOI.mid hm (by omega)
  replace IVG := IVG.mid hm (by omega)
  have hmz : kG ≤ w15.heap.size := Nat.le_trans IOG.le hm.size
  replace IOG := It.ownMd ⟨MG, hM1, hM2, ho1, ho2⟩ hmz
  clear hm ho1 ho2 hmz hM3 hM4
  go_wp2_with fail
  refine (markM_any IG iG II.length II _ _ _ (1 + (D.length : Int) + (totalL AA : Int)) IOI.holds (by omega) (by omega) (by omega) (by omega)).mono ?_
  rintro e w16 ⟨rfl, ho, hm⟩
  have hz16 := hm.size
  replace IB0 := IB0.mid hm (by omega)
  replace ID0 := ID0.mid hm (by omega)
  replace IT := IT.mid hm (by omega)
  replace IF := IF.mid hm (by omega)
  replace IJS := IJS.mid hm (by omega)
  replace IVS := IVS.mid hm (by omega)
  replace IRS := IRS.mid hm (by omega)
  replace IOG := IOG.mid hm (by omega)
  replace IVG := IVG.mid hm (by omega)
  have hmz : mG ≤ w16.heap.size := Nat.le_trans IOI.le hm.size
  replace IOI := It.ownM ho hmz
  clear hm ho hmz
  have hmp1 : ¬ (1 + (D.length : Int) + (totalL AA : Int) < 0) := by omega
  have hmp2 : ¬ (1 + (D.length : Int) + (totalL AA : Int) + (totalL II : Int) < 0) := by omega
  have hmp3 : (0 : Int) ≤ (D.length : Int) := by omega
  have hmp4 : (0 : Int) ≤ (totalL AA : Int) := by omega
  have hmq : ((1 + (D.length : Int) + (totalL AA : Int) + (totalL II : Int)) != (1 + (D.length : Int) + (totalL AA : Int) + (totalL II : Int))) = false := by simp
  have hmp5 : (0 : Int) ≤ (totalL II : Int) := by omega
  have kg := IVG.cell (i := 0) rfl
  have kgz := IVG.cell (i := 1) rfl
  go_wp2_with fail
  refine (heldModule_any RG AG D.length rG AA.length cG AA _ _ _ 1 IOG.holds.rd.ds IOG.holds.rd.act (Nat.le_refl _) (Nat.le_refl _) (by omega) (by omega) (by omega) (by omega) (by omega) (by omega)).mono ?_
  rintro e w17 ⟨rfl, hb⟩
  clear kg kgz
  have hz17 := hb.size
  replace IB0 := IB0.ext hb
  replace ID0 := ID0.ext hb
  replace IT := IT.ext hb
  replace IF := IF.ext hb
  replace IJS := IJS.ext hb
  replace IVS := IVS.ext hb
  replace IRS := IRS.ext hb
  replace IOG := IOG.ext hb
  replace IOI := IOI.ext hb
  replace IVG := IVG.ext hb
  clear hb
  go_wp2_with fail
  refine (heldLb_any IG iG II.length II _ _ (1 + (D.length : Int) + (totalL AA : Int)) IOI.holds.own.rd (by omega) (by omega) (by omega) (by omega)).mono ?_
  rintro e w18 ⟨rfl, hb⟩
  have hz18 := hb.size
  replace IB0 := IB0.ext hb
  replace ID0 := ID0.ext hb
  replace IT := IT.ext hb
  replace IF := IF.ext hb
  replace IJS := IJS.ext hb
  replace IVS := IVS.ext hb
  replace IRS := IRS.ext hb
  replace IOG := IOG.ext hb
  replace IOI := IOI.ext hb
  replace IVG := IVG.ext hb
  clear hb
  have kb0 := IB0.cell (i := 0) rfl
  have kb0z := IB0.cell (i := 1) rfl
  go_wp2_with fail
  refine (toModule_any D0 q0 d0 ds0 A0 c0 n0 xss0 _ (ID0.holds.mono ID0.le) (by omega) (by omega) (by omega)).mono ?_
  rintro e w19 ⟨D30, A30, q30, c30, rfl, ho, hb⟩
  clear kb0 kb0z
  have hz19 := hb.size
  replace IB0 := IB0.ext hb
  replace ID0 := ID0.ext hb
  replace IT := IT.ext hb
  replace IF := IF.ext hb
  replace IJS := IJS.ext hb
  replace IVS := IVS.ext hb
  replace IRS := IRS.ext hb
  replace IOG := IOG.ext hb
  replace IOI := IOI.ext hb
  replace IVG := IVG.ext hb
  have IC0 := It.rdMd ho.rd (Nat.le_refl _)
  clear ho hb
  have kb0 := IB0.cell (i := 0) rfl
  have kb0z := IB0.cell (i := 1) rfl
  go_wp2_with fail
  refine (HI.out _ _ _ _ _ IT.holds (IC0.holds.mono IC0.le)).mono ?_
  rintro e w20 ⟨RH, rH, AH, cH, IH, iH, kH, rfl, _, _, ho, hj, hb⟩
  clear IC0
  clear kb0 kb0z
  have hz20 := hb.size
  replace IB0 := IB0.ext hb
  replace ID0 := ID0.ext hb
  replace IT := IT.ext hb
  replace IF := IF.ext hb
  replace IJS := IJS.ext hb
  replace IVS := IVS.ext hb
  replace IRS := IRS.ext hb
  replace IOG := IOG.ext hb
  replace IOI := IOI.ext hb
  replace IVG := IVG.ext hb
  have IRH := It.rdMd ho.rd (Nat.le_refl _)
  have IJH := It.rdL hj.own.rd (Nat.le_refl _)
  obtain ⟨sH, hsH⟩ : ∃ s, s = w20.heap.size := ⟨_, rfl⟩
  rw [← hsH] at IRH IJH
  have hseH := Lib.hid hsH
  replace hsH := Nat.le_of_eq hsH
  clear ho hb hj
  have ks := IVS.cell (i := 0) rfl
  have ksz := IVS.cell (i := 1) rfl
  have zks := Nat.lt_of_succ_le IVS.le
  go_wp2_with fail
  obtain ⟨w21, hw⟩ : ∃ V, V = w20.alloc (.cells #[.slice RH D.length rH, .slice AH AA.length cH] 27) := ⟨_, rfl⟩
  obtain ⟨bH, hbt⟩ : ∃ B, B = w20.heap.size := ⟨_, rfl⟩
  rw [← hw, ← hbt]
  have IVH := var_new hw hbt
  have hb := ext_new hw
  have hbtH := Nat.le_of_eq hbt
  have hbuH := Nat.le_of_eq hbt.symm
  have hvH := IVH.le
  clear hw hbt
  clear ks ksz zks
  have hz21 := hb.size
  replace IB0 := IB0.ext hb
  replace ID0 := ID0.ext hb
  replace IT := IT.ext hb
  replace IF := IF.ext hb
  replace IJS := IJS.ext hb
  replace IVS := IVS.ext hb
  replace IRS := IRS.ext hb
  replace IOG := IOG.ext hb
  replace IOI := IOI.ext hb
  replace IVG := IVG.ext hb
  replace IRH := IRH.ext hb
  replace IJH := IJH.ext hb
  clear hb
  refine (eqModule_same RH RS AH AS rH rS cH cS D.length AA.length D AA _ _ _ IRH.holds.ds IRS.holds.ds IRH.holds.act IRS.holds.act IRH.le IRS.le (by omega) (by omega) (by omega)).mono ?_
  rintro e w22 ⟨rfl, hb⟩
  have hz22 := hb.size
  replace IB0 := IB0.ext hb
  replace ID0 := ID0.ext hb
  replace IT := IT.ext hb
  replace IF := IF.ext hb
  replace IJS := IJS.ext hb
  replace IVS := IVS.ext hb
  replace IRS := IRS.ext hb
  replace IOG := IOG.ext hb
  replace IOI := IOI.ext hb
  replace IVG := IVG.ext hb
  replace IJH := IJH.ext hb
  replace IVH := IVH.ext hb
  replace IRH := IRH.ext hb
  clear hb
  go_wp2_with fail
  refine (eqLb_any IH IS iH iS II.length II.length II II _ _ _ IJH.holds IJS.holds (by omega) (by omega) (by omega) (by omega)).mono ?_
  rintro e w23 ⟨rfl, hb⟩
  rw [decide_eq_true (rfl : II = II)]
  have hz23 := hb.size
  replace IB0 := IB0.ext hb
  replace ID0 := ID0.ext hb
  replace IT := IT.ext hb
  replace IF := IF.ext hb
  replace IJS := IJS.ext hb
  replace IVS := IVS.ext hb
  replace IRS := IRS.ext hb
  replace IOG := IOG.ext hb
  replace IOI := IOI.ext hb
  replace IVG := IVG.ext hb
  replace IJH := IJH.ext hb
  replace IVH := IVH.ext hb
  replace IRH := IRH.ext hb
  clear hb
  have kg := IVG.cell (i := 0) rfl
  have kgz := IVG.cell (i := 1) rfl
  go_wp2_with fail
  refine (heldModule_any RG AG D.length rG AA.length cG AA _ _ _ 1 IOG.holds.rd.ds IOG.holds.rd.act (Nat.le_refl _) (Nat.le_refl _) (by omega) (by omega) (by omega) (by omega) (by omega) (by omega)).mono ?_
  rintro e w24 ⟨rfl, hb⟩
  clear kg kgz
  have hz24 := hb.size
  replace IB0 := IB0.ext hb
  replace ID0 := ID0.ext hb
  replace IT := IT.ext hb
  replace IF := IF.ext hb
  replace IJS := IJS.ext hb
  replace IVS := IVS.ext hb
  replace IRS := IRS.ext hb
  replace IOG := IOG.ext hb
  replace IOI := IOI.ext hb
  replace IVG := IVG.ext hb
  replace IJH := IJH.ext hb
  replace IVH := IVH.ext hb
  replace IRH := IRH.ext hb
  clear hb
  go_wp2_with fail
  refine (heldLb_any IG iG II.length II _ _ (1 + (D.length : Int) + (totalL AA : Int)) IOI.holds.own.rd (by omega) (by omega) (by omega) (by omega)).mono ?_
  rintro e w25 ⟨rfl, hb⟩
  have hz25 := hb.size
  replace IB0 := IB0.ext hb
  replace ID0 := ID0.ext hb
  replace IT := IT.ext hb
  replace IF := IF.ext hb
  replace IJS := IJS.ext hb
  replace IVS := IVS.ext hb
  replace IRS := IRS.ext hb
  replace IOG := IOG.ext hb
  replace IOI := IOI.ext hb
  replace IVG := IVG.ext hb
  replace IJH := IJH.ext hb
  replace IVH := IVH.ext hb
  replace IRH := IRH.ext hb
  clear hb
  go_wp2_with fail
  go_ret
  exact ⟨rfl, by rw [← Hb.out]; exact IF.holds⟩

theorem bigUnstableQuotient0 (D0 : Option Addr) (d0 q0 : Nat) (ds0 : List Int) (A0 : Option Addr) (n0 c0 : Nat) (xss0 : List (List Int)) (w : World) (h0 : RdMd w w.heap.size D0 d0 q0 ds0 A0 n0 c0 xss0) (y0 : d0 ≤ 9223372036854775807) (m0 : n0 ≤ 9223372036854775807) (e0 : ∀ x ∈ xss0, x.length ≤ 9223372036854775807) (hs : ¬ (d0 + (n0 + totalL xss0)) ≤ 1048576) :
    Calls Tryz.prog 3 #[.agg #[.slice D0 d0 q0, .slice A0 n0 c0]] w fun e w' => e = .returned (.bool true) ∧ Below w.heap.size w w' := by
  obtain ⟨w0, hw0⟩ : ∃ w0, w0 = w.alloc (.cells #[.slice D0 d0 q0, .slice A0 n0 c0] 25) := ⟨_, rfl⟩
  obtain ⟨b, hbe⟩ : ∃ b, b = w.heap.size := ⟨_, rfl⟩
  have x0 : Ext w w0 := by rw [hw0]; exact (Ext.refl w).alloc _
  have hz0 : w0.heap.size = b + 1 := by rw [hw0, hbe]; simp
  have IB0 : It (b) (b + 1) (fun V => V.heap[b]? = some (.cells #[.slice D0 d0 q0, .slice A0 n0 c0] 25 (0, 0))) w0 := by
    rw [hw0]
    have h1 := var_new (W := w.alloc (.cells #[.slice D0 d0 q0, .slice A0 n0 c0] 25)) (b := b) rfl (by subst hbe; simp)
    exact h1
  skip
  have ID0 : It 0 b (fun V => RdMd V b D0 d0 q0 ds0 A0 n0 c0 xss0) w0 := by rw [hbe]; exact (It.rdMd h0 (Nat.le_refl _)).ext x0
  clear h0
  have E0 := Lib.hid e0; clear e0
  have IF : It 0 b (fun V => Below b w V) w0 := by rw [hbe]; exact It.fin x0 (Nat.le_refl _)
  have Hw := Lib.hid hw0; clear hw0
  have Hb := Lib.hid hbe; clear hbe x0
  replace hz0 : b + 1 ≤ w0.heap.size := Nat.le_of_eq hz0.symm
  go_enter Tryz.func3, Tryz.ntmps3
  go_wp2_with fail
  rw [← Hw.out, ← Hb.out]
  have kb0 := IB0.cell (i := 0) rfl
  have kb0z := IB0.cell (i := 1) rfl
  refine (szModule_any D0 q0 d0 ds0 A0 c0 n0 b xss0 _ (1048576) ID0.holds ID0.le (by omega) (by omega) y0 m0 E0.out).mono ?_
  rintro e w1 ⟨rfl, hb⟩
  rw [show szR (1048576) (d0 + (n0 + totalL xss0)) = -1 from by unfold szR; rw [if_pos (by omega)]]
  clear kb0 kb0z
  have hz1 := hb.size
  replace IB0 := IB0.ext hb
  replace ID0 := ID0.ext hb
  replace IF := IF.ext hb
  clear hb
  go_wp2_with fail
  go_ret
  exact ⟨rfl, by rw [← Hb.out]; exact IF.holds⟩
end Go.Proofs.YtejojliljplcdaaGreatDoor
