/- The law FnExactParsePoly, over whatever both sides answer alike. -/
import Derived.Test.YtbcchiaigincaaaGreatDoorPrl
import Derived.Test.YtbcchiaigincaaaGreatDoorLawK
namespace Go.Proofs.YtbcchiaigincaaaGreatDoor
open Go.RowKit
set_option linter.unusedVariables false

set_option maxRecDepth 100000 in
set_option maxHeartbeats 4000000 in
theorem coreParsePoly (a0 : ByteArray) (v : Int) (l : Nat) (L : List (List Int)) (k : Int) (hl : l ≤ 1000000000) (ht : totalL L ≤ 1000000000) (w0 : World) (hT : PP w0)  (l0 : a0.size ≤ 1048576)
    (hS : ∀  (w : World), Calls Tryz.prog 4 #[.string a0] w (RetNC v l L k w))
    (hI : ∀  (w : World), PP w → Calls Tryz.prog 5 #[.string a0] w (RetNC v l L k w)) :
    Calls Tryz.prog 3 #[.string a0] w0 fun e w' => e = .returned (.bool true) ∧ Below w0.heap.size w0 w' := by
  obtain ⟨b, hbe⟩ : ∃ b, b = w0.heap.size := ⟨_, rfl⟩
  have x0 : Ext w0 w0 := Ext.refl w0
  have hw0 : True := trivial
  have hz0 : w0.heap.size = b := hbe.symm
  have l0z : ¬ (1048576 : Int) < (a0.size : Int) := by omega
  have IT : It 0 b (fun V => PP V) w0 := by rw [hbe]; exact (It.pp hT (Nat.le_refl _) hT.pos).ext x0
  clear hT
  have IF : It 0 b (fun V => Below b w0 V) w0 := by rw [hbe]; exact It.fin x0 (Nat.le_refl _)
  have HS := Lib.hid hS; clear hS
  have HI := Lib.hid hI; clear hI
  have Hw := Lib.hid hw0; clear hw0
  have Hb := Lib.hid hbe; clear hbe x0
  have HLt := Lib.hid ht; clear ht
  replace hz0 : b ≤ w0.heap.size := Nat.le_of_eq hz0.symm
  go_enter Tryz.func3, Tryz.ntmps3
  go_wp2_with fail
  refine (HS.out  _ ).mono ?_
  rintro e w1 ⟨AS, cS, rfl, ho, hb⟩
  skip
  have hz1 := hb.size
  replace IT := IT.ext hb
  replace IF := IF.ext hb
  have IRS := It.rdL ho.own.rd (Nat.le_refl _)
  obtain ⟨sS, hsS⟩ : ∃ s, s = w1.heap.size := ⟨_, rfl⟩
  rw [← hsS] at IRS
  have hseS := Lib.hid hsS
  replace hsS := Nat.le_of_eq hsS
  clear ho hb
  go_wp2_with fail
  obtain ⟨w2, hw⟩ : ∃ V, V = w1.alloc (.cells #[.int .i64 v, .slice AS l cS] 24) := ⟨_, rfl⟩
  obtain ⟨bS, hbt⟩ : ∃ B, B = w1.heap.size := ⟨_, rfl⟩
  rw [← hw, ← hbt]
  have IVS := var_new hw hbt
  have hb := ext_new hw
  have hbtS := Nat.le_of_eq hbt
  have hbuS := Nat.le_of_eq hbt.symm
  have hvS := IVS.le
  clear hw hbt
  have hz2 := hb.size
  replace IT := IT.ext hb
  replace IF := IF.ext hb
  replace IRS := IRS.ext hb
  clear hb
  refine (HI.out  _ IT.holds ).mono ?_
  rintro e w3 ⟨AG, cG, rfl, ho, hb⟩
  skip
  obtain ⟨lG, hlG⟩ : ∃ s, s = w2.heap.size := ⟨_, rfl⟩
  obtain ⟨mG, hmG⟩ : ∃ s, s = w3.heap.size := ⟨_, rfl⟩
  rw [← hlG, ← hmG] at ho
  have hz3 := hb.size
  replace IT := IT.ext hb
  replace IF := IF.ext hb
  replace IVS := IVS.ext hb
  replace IRS := IRS.ext hb
  have IOG := It.ownM ho (Nat.le_of_eq hmG)
  have hlGx := Nat.le_of_eq hlG
  have hlGy := Nat.le_of_eq hlG.symm
  have hmGx := Nat.le_of_eq hmG
  have hmGy := Nat.le_of_eq hmG.symm
  clear ho hb hlG hmG
  have ks := IVS.cell (i := 0) rfl
  have ksz := IVS.cell (i := 1) rfl
  have zks := Nat.lt_of_succ_le IVS.le
  go_wp2_with fail
  obtain ⟨w4, hw⟩ : ∃ V, V = w3.alloc (.cells #[.int .i64 v, .slice AG l cG] 24) := ⟨_, rfl⟩
  obtain ⟨bG, hbt⟩ : ∃ B, B = w3.heap.size := ⟨_, rfl⟩
  rw [← hw, ← hbt]
  have IVG := var_new hw hbt
  have hb := ext_new hw
  have hbtG := Nat.le_of_eq hbt
  have hbuG := Nat.le_of_eq hbt.symm
  have hvG := IVG.le
  clear hw hbt
  clear ks ksz zks
  have hz4 := hb.size
  replace IT := IT.ext hb
  replace IF := IF.ext hb
  replace IVS := IVS.ext hb
  replace IRS := IRS.ext hb
  replace IOG := IOG.ext hb
  clear hb
  have hnk : (k != k) = false := by simp
  refine (eqPoly_any v v AG AS cG cS l l L L _ _ _ IOG.holds.own.rd IRS.holds (Nat.le_refl _) IRS.le (by omega) (by omega) (by have := HLt.out; omega) (by have := HLt.out; omega)).mono ?_
  rintro e w5 ⟨rfl, hb⟩
  rw [show decide (v = v ∧ L = L) = true from by simp]
  have hz5 := hb.size
  replace IT := IT.ext hb
  replace IF := IF.ext hb
  replace IVS := IVS.ext hb
  replace IRS := IRS.ext hb
  replace IOG := IOG.ext hb
  replace IVG := IVG.ext hb
  clear hb
  have kg := IVG.cell (i := 0) rfl
  have kgz := IVG.cell (i := 1) rfl
  go_wp2_with fail
  refine (markPoly_any v AG cG l L _ _ _ 1 IOG.holds (by omega) (by have := HLt.out; omega) (by omega) (by omega)).mono ?_
  rintro e w6 ⟨rfl, ho, hm⟩
  clear kg kgz
  have hz6 := hm.size
  replace IT := IT.mid hm (by omega)
  replace IF := IF.mid hm (by omega)
  replace IVS := IVS.mid hm (by omega)
  replace IRS := IRS.mid hm (by omega)
  replace IVG := IVG.mid hm (by omega)
  have hmz : mG ≤ w6.heap.size := Nat.le_trans IOG.le hm.size
  replace IOG := It.ownM ho hmz
  clear hm ho hmz
  have kg := IVG.cell (i := 0) rfl
  have kgz := IVG.cell (i := 1) rfl
  go_wp2_with fail
  refine (heldPoly_any v AG cG l L _ _ 1 IOG.holds.own.rd (Nat.le_refl _) (by omega) (by have := HLt.out; omega) (by omega) (by omega)).mono ?_
  rintro e w7 ⟨rfl, hb⟩
  clear kg kgz
  have hz7 := hb.size
  replace IT := IT.ext hb
  replace IF := IF.ext hb
  replace IVS := IVS.ext hb
  replace IRS := IRS.ext hb
  replace IOG := IOG.ext hb
  replace IVG := IVG.ext hb
  clear hb
  have hmq : ((1 + (totalL L : Int)) != (1 + (totalL L : Int))) = false := by simp
  have hmp : (0 : Int) ≤ (totalL L : Int) := by omega
  go_wp2_with fail
  refine (HI.out  _ IT.holds ).mono ?_
  rintro e w8 ⟨AH, cH, rfl, ho, hb⟩
  skip
  have hz8 := hb.size
  replace IT := IT.ext hb
  replace IF := IF.ext hb
  replace IVS := IVS.ext hb
  replace IRS := IRS.ext hb
  replace IOG := IOG.ext hb
  replace IVG := IVG.ext hb
  have IRH := It.rdL ho.own.rd (Nat.le_refl _)
  obtain ⟨sH, hsH⟩ : ∃ s, s = w8.heap.size := ⟨_, rfl⟩
  rw [← hsH] at IRH
  have hseH := Lib.hid hsH
  replace hsH := Nat.le_of_eq hsH
  clear ho hb
  have ks := IVS.cell (i := 0) rfl
  have ksz := IVS.cell (i := 1) rfl
  have zks := Nat.lt_of_succ_le IVS.le
  go_wp2_with fail
  obtain ⟨w9, hw⟩ : ∃ V, V = w8.alloc (.cells #[.int .i64 v, .slice AH l cH] 24) := ⟨_, rfl⟩
  obtain ⟨bH, hbt⟩ : ∃ B, B = w8.heap.size := ⟨_, rfl⟩
  rw [← hw, ← hbt]
  have IVH := var_new hw hbt
  have hb := ext_new hw
  have hbtH := Nat.le_of_eq hbt
  have hbuH := Nat.le_of_eq hbt.symm
  have hvH := IVH.le
  clear hw hbt
  clear ks ksz zks
  have hz9 := hb.size
  replace IT := IT.ext hb
  replace IF := IF.ext hb
  replace IVS := IVS.ext hb
  replace IRS := IRS.ext hb
  replace IOG := IOG.ext hb
  replace IVG := IVG.ext hb
  replace IRH := IRH.ext hb
  clear hb
  refine (eqPoly_any v v AH AS cH cS l l L L _ _ _ IRH.holds IRS.holds IRH.le IRS.le (by omega) (by omega) (by have := HLt.out; omega) (by have := HLt.out; omega)).mono ?_
  rintro e w10 ⟨rfl, hb⟩
  rw [show decide (v = v ∧ L = L) = true from by simp]
  have hz10 := hb.size
  replace IT := IT.ext hb
  replace IF := IF.ext hb
  replace IVS := IVS.ext hb
  replace IRS := IRS.ext hb
  replace IOG := IOG.ext hb
  replace IVG := IVG.ext hb
  replace IVH := IVH.ext hb
  replace IRH := IRH.ext hb
  clear hb
  have kg := IVG.cell (i := 0) rfl
  have kgz := IVG.cell (i := 1) rfl
  go_wp2_with fail
  refine (heldPoly_any v AG cG l L _ _ 1 IOG.holds.own.rd (Nat.le_refl _) (by omega) (by have := HLt.out; omega) (by omega) (by omega)).mono ?_
  rintro e w11 ⟨rfl, hb⟩
  clear kg kgz
  have hz11 := hb.size
  replace IT := IT.ext hb
  replace IF := IF.ext hb
  replace IVS := IVS.ext hb
  replace IRS := IRS.ext hb
  replace IOG := IOG.ext hb
  replace IVG := IVG.ext hb
  replace IVH := IVH.ext hb
  replace IRH := IRH.ext hb
  clear hb
  go_wp2_with fail
  go_ret
  exact ⟨rfl, by rw [← Hb.out]; exact IF.holds⟩

theorem bigTParsePoly0 (a0 : ByteArray) (w : World) (hl : ¬ a0.size ≤ 1048576) :
    Calls Tryz.prog 3 #[.string a0] w fun e w' => e = .returned (.bool true) ∧ Below w.heap.size w w' := by
  have lz : (1048576 : Int) < (a0.size : Int) := by omega
  go_enter Tryz.func3, Tryz.ntmps3
  go_wp2_with fail
  go_ret
  exact ⟨rfl, Below.refl _ _⟩
end Go.Proofs.YtbcchiaigincaaaGreatDoor
