/- The law FnExactPolyText, over whatever both sides answer alike. -/
import Derived.Test.YtbcchiaigincaaaDoorPtx
import Derived.Test.YtbcchiaigincaaaDoorLawK
namespace Go.Proofs.YtbcchiaigincaaaDoor
open Go.RowKit
set_option linter.unusedVariables false

set_option maxRecDepth 100000 in
set_option maxHeartbeats 4000000 in
theorem corePolyText (a0 : Int) (A0 : Option Addr) (n0 c0 : Nat) (xss0 : List (List Int)) (v : ByteArray) (k : Int) (w : World) (h0 : RdL w w.heap.size A0 n0 c0 xss0) (e0 : ∀ x ∈ xss0, x.length ≤ 9223372036854775807) (hs : (n0 + totalL xss0) ≤ 1048576)
    (hS : ∀ (A0 : Option Addr) (c0 : Nat) (w : World), RdL w w.heap.size A0 n0 c0 xss0 → Calls Tryd.prog 5 #[.agg #[.int .i64 a0, .slice A0 n0 c0]] w (RetTSC v k w))
    (hI : ∀ (A0 : Option Addr) (c0 : Nat) (w : World), RdL w w.heap.size A0 n0 c0 xss0 → Calls Tryd.prog 7 #[.agg #[.int .i64 a0, .slice A0 n0 c0]] w (RetTSC v k w)) :
    Calls Tryd.prog 3 #[.agg #[.int .i64 a0, .slice A0 n0 c0]] w fun e w' => e = .returned (.bool true) ∧ Below w.heap.size w w' := by
  obtain ⟨w0, hw0⟩ : ∃ w0, w0 = w.alloc (.cells #[.int .i64 a0, .slice A0 n0 c0] 24) := ⟨_, rfl⟩
  obtain ⟨b, hbe⟩ : ∃ b, b = w.heap.size := ⟨_, rfl⟩
  have x0 : Ext w w0 := by rw [hw0]; exact (Ext.refl w).alloc _
  have hz0 : w0.heap.size = b + 1 := by rw [hw0, hbe]; simp
  have IB0 : It (b) (b + 1) (fun V => V.heap[b]? = some (.cells #[.int .i64 a0, .slice A0 n0 c0] 24 (0, 0))) w0 := by
    rw [hw0]
    have h1 := var_new (W := w.alloc (.cells #[.int .i64 a0, .slice A0 n0 c0] 24)) (b := b) rfl (by subst hbe; simp)
    exact h1
  have ID0 : It 0 b (fun V => RdL V b A0 n0 c0 xss0) w0 := by rw [hbe]; exact (It.rdL h0 (Nat.le_refl _)).ext x0
  have HL0 := Lib.hid h0.len; clear h0
  have E0 := Lib.hid e0; clear e0
  have IF : It 0 b (fun V => Below b w V) w0 := by rw [hbe]; exact It.fin x0 (Nat.le_refl _)
  have HS := Lib.hid hS; clear hS
  have HI := Lib.hid hI; clear hI
  have Hw := Lib.hid hw0; clear hw0
  have Hb := Lib.hid hbe; clear hbe x0
  replace hz0 : b + 1 ≤ w0.heap.size := Nat.le_of_eq hz0.symm
  go_enter Tryd.func3, Tryd.ntmps3
  go_wp2_with fail
  rw [← Hw.out, ← Hb.out]
  have kb0 := IB0.cell (i := 0) rfl
  have kb0z := IB0.cell (i := 1) rfl
  refine (szPoly_any a0 A0 c0 n0 b xss0 _ (1048576) ID0.holds ID0.le (by omega) (by omega) (by omega) E0.out).mono ?_
  rintro e w1 ⟨rfl, hb⟩
  rw [show szR (1048576) (n0 + totalL xss0) = 1048576 - ((n0 + totalL xss0 : Nat) : Int) from by unfold szR; rw [if_neg (by omega)]]
  clear kb0 kb0z
  have hz1 := hb.size
  replace IB0 := IB0.ext hb
  replace ID0 := ID0.ext hb
  replace IF := IF.ext hb
  clear hb
  have kb0 := IB0.cell (i := 0) rfl
  have kb0z := IB0.cell (i := 1) rfl
  go_wp2_with fail
  refine (toPoly_any a0 A0 c0 n0 xss0 _ (ID0.holds.mono ID0.le) (by omega) (by omega)).mono ?_
  rintro e w2 ⟨A30, c30, rfl, ho, hb⟩
  clear kb0 kb0z
  have hz2 := hb.size
  replace IB0 := IB0.ext hb
  replace ID0 := ID0.ext hb
  replace IF := IF.ext hb
  have IC0 := It.rdL ho.own.rd (Nat.le_refl _)
  clear ho hb
  have kb0 := IB0.cell (i := 0) rfl
  have kb0z := IB0.cell (i := 1) rfl
  go_wp2_with fail
  refine (HS.out _ _ _ (IC0.holds.mono IC0.le)).mono ?_
  rintro e w3 ⟨rfl, hb⟩
  clear IC0
  clear kb0 kb0z
  have hz3 := hb.size
  replace IB0 := IB0.ext hb
  replace ID0 := ID0.ext hb
  replace IF := IF.ext hb
  clear hb
  have kb0 := IB0.cell (i := 0) rfl
  have kb0z := IB0.cell (i := 1) rfl
  go_wp2_with fail
  refine (toPoly_any a0 A0 c0 n0 xss0 _ (ID0.holds.mono ID0.le) (by omega) (by omega)).mono ?_
  rintro e w4 ⟨A0x, c0x, rfl, ho, hb⟩
  obtain ⟨l0x, hlx⟩ : ∃ s, s = w3.heap.size := ⟨_, rfl⟩
  obtain ⟨m0x, hmx⟩ : ∃ s, s = w4.heap.size := ⟨_, rfl⟩
  rw [← hlx, ← hmx] at ho
  clear kb0 kb0z
  have hz4 := hb.size
  replace IB0 := IB0.ext hb
  replace ID0 := ID0.ext hb
  replace IF := IF.ext hb
  have IO0 := It.ownM ho (Nat.le_of_eq hmx)
  have hlx0 := Nat.le_of_eq hlx
  have hly0 := Nat.le_of_eq hlx.symm
  have hmx0 := Nat.le_of_eq hmx
  have hmy0 := Nat.le_of_eq hmx.symm
  clear ho hb hlx hmx
  go_wp2_with fail
  obtain ⟨w5, hw⟩ : ∃ V, V = w4.alloc (.cells #[.int .i64 a0, .slice A0x n0 c0x] 28) := ⟨_, rfl⟩
  obtain ⟨bx0, hbt⟩ : ∃ B, B = w4.heap.size := ⟨_, rfl⟩
  rw [← hw, ← hbt]
  have IVx0 := var_new hw hbt
  have hb := ext_new hw
  have hbtx0 := Nat.le_of_eq hbt
  have hbux0 := Nat.le_of_eq hbt.symm
  have hvx0 := IVx0.le
  clear hw hbt
  have hz5 := hb.size
  replace IB0 := IB0.ext hb
  replace ID0 := ID0.ext hb
  replace IF := IF.ext hb
  replace IO0 := IO0.ext hb
  clear hb
  refine (HI.out _ _ _ (IO0.holds.own.rd)).mono ?_
  rintro e w6 ⟨rfl, hb⟩
  have hz6 := hb.size
  replace IB0 := IB0.ext hb
  replace ID0 := ID0.ext hb
  replace IF := IF.ext hb
  replace IO0 := IO0.ext hb
  replace IVx0 := IVx0.ext hb
  clear hb
  have hnk : (k != k) = false := by simp
  skip
  have kx0 := IVx0.cell (i := 0) rfl
  have kx0z := IVx0.cell (i := 1) rfl
  have kb0 := IB0.cell (i := 0) rfl
  have kb0z := IB0.cell (i := 1) rfl
  go_wp2_with fail
  have zb : b < w6.drew.heap.size := IB0.le
  have zx : bx0 < w6.drew.heap.size := IVx0.le
  have Ed := Lib.hid (Ext.drew (Ext.refl w6))
  have Xd := Lib.hid (IO0.ext Ed.out)
  have Dd := Lib.hid (ID0.ext Ed.out)
  go_region_held3 (fun w' => w'.cell? ⟨bx0, 0, none⟩ = some (.int .i64 a0) ∧ w'.cell? ⟨bx0, 1, none⟩ = some (.slice A0x n0 c0x) ∧ w'.cell? ⟨b, 0, none⟩ = some (.int .i64 a0) ∧ w'.cell? ⟨b, 1, none⟩ = some (.slice A0 n0 c0)) (first | exact ⟨kx0, kx0z, kb0, kb0z⟩ | exact ⟨kx0p, kx0zp, kb0p, kb0zp⟩ | exact ⟨kx0q, kx0zq, kb0q, kb0zq⟩)
    (first
      | (go_at_call 6
         refine (toPoly_any a0 A0 c0 n0 xss0 _ (Dd.out.holds.mono Dd.out.le) (by omega) (by omega)).mono ?_
         rintro e u0 ⟨A0y, c0y, rfl, ho, hb⟩
         have kx0p := bcell hb zx kx0
         have kx0zp := bcell hb zx kx0z
         have kb0p := bcell hb zb kb0
         have kb0zp := bcell hb zb kb0z
         have zbp := Nat.lt_of_lt_of_le zb hb.size
         have zxp := Nat.lt_of_lt_of_le zx hb.size
         have Ry := Lib.hid ho.own.rd
         have Xp := Lib.hid (Xd.out.ext hb)
         have Ep := Lib.hid (Ed.out.trans hb)
         clear ho hb)
      | (go_at_call 8
         refine (eqPoly_any a0 a0 A0x A0y c0x c0y n0 n0 xss0 xss0 _ _ _ Xp.out.holds.own.rd Ry.out (Nat.le_refl _) (Nat.le_refl _) (by omega) (by omega) (by omega) (by omega)).mono ?_
         rintro e w7 ⟨rfl, hb⟩
         have kx0q := bcell hb zxp kx0p
         have kx0zq := bcell hb zxp kx0zp
         have kb0q := bcell hb zbp kb0p
         have kb0zq := bcell hb zbp kb0zp
         have Eq := Lib.hid (Ep.out.trans hb)
         clear hb
         rw [show decide (a0 = a0 ∧ xss0 = xss0) = true from by simp]))
  have hb := Eq.out
  clear kx0 kx0z kb0 kb0z kx0p kx0zp kb0p kb0zp kx0q kx0zq kb0q kb0zq zb zx zbp zxp Xd Dd Ed Ry Xp Ep Eq
  have hz7 := hb.size
  replace IB0 := IB0.ext hb
  replace ID0 := ID0.ext hb
  replace IF := IF.ext hb
  replace IO0 := IO0.ext hb
  replace IVx0 := IVx0.ext hb
  clear hb
  go_wp2_with fail
  go_ret
  exact ⟨rfl, by rw [← Hb.out]; exact IF.holds⟩

theorem bigPolyText0 (a0 : Int) (A0 : Option Addr) (n0 c0 : Nat) (xss0 : List (List Int)) (w : World) (h0 : RdL w w.heap.size A0 n0 c0 xss0) (m0 : n0 ≤ 9223372036854775807) (e0 : ∀ x ∈ xss0, x.length ≤ 9223372036854775807) (hs : ¬ (n0 + totalL xss0) ≤ 1048576) :
    Calls Tryd.prog 3 #[.agg #[.int .i64 a0, .slice A0 n0 c0]] w fun e w' => e = .returned (.bool true) ∧ Below w.heap.size w w' := by
  obtain ⟨w0, hw0⟩ : ∃ w0, w0 = w.alloc (.cells #[.int .i64 a0, .slice A0 n0 c0] 24) := ⟨_, rfl⟩
  obtain ⟨b, hbe⟩ : ∃ b, b = w.heap.size := ⟨_, rfl⟩
  have x0 : Ext w w0 := by rw [hw0]; exact (Ext.refl w).alloc _
  have hz0 : w0.heap.size = b + 1 := by rw [hw0, hbe]; simp
  have IB0 : It (b) (b + 1) (fun V => V.heap[b]? = some (.cells #[.int .i64 a0, .slice A0 n0 c0] 24 (0, 0))) w0 := by
    rw [hw0]
    have h1 := var_new (W := w.alloc (.cells #[.int .i64 a0, .slice A0 n0 c0] 24)) (b := b) rfl (by subst hbe; simp)
    exact h1
  skip
  have ID0 : It 0 b (fun V => RdL V b A0 n0 c0 xss0) w0 := by rw [hbe]; exact (It.rdL h0 (Nat.le_refl _)).ext x0
  clear h0
  have E0 := Lib.hid e0; clear e0
  have IF : It 0 b (fun V => Below b w V) w0 := by rw [hbe]; exact It.fin x0 (Nat.le_refl _)
  have Hw := Lib.hid hw0; clear hw0
  have Hb := Lib.hid hbe; clear hbe x0
  replace hz0 : b + 1 ≤ w0.heap.size := Nat.le_of_eq hz0.symm
  go_enter Tryd.func3, Tryd.ntmps3
  go_wp2_with fail
  rw [← Hw.out, ← Hb.out]
  have kb0 := IB0.cell (i := 0) rfl
  have kb0z := IB0.cell (i := 1) rfl
  refine (szPoly_any a0 A0 c0 n0 b xss0 _ (1048576) ID0.holds ID0.le (by omega) (by omega) m0 E0.out).mono ?_
  rintro e w1 ⟨rfl, hb⟩
  rw [show szR (1048576) (n0 + totalL xss0) = -1 from by unfold szR; rw [if_pos (by omega)]]
  clear kb0 kb0z
  have hz1 := hb.size
  replace IB0 := IB0.ext hb
  replace ID0 := ID0.ext hb
  replace IF := IF.ext hb
  clear hb
  go_wp2_with fail
  go_ret
  exact ⟨rfl, by rw [← Hb.out]; exact IF.holds⟩
end Go.Proofs.YtbcchiaigincaaaDoor
