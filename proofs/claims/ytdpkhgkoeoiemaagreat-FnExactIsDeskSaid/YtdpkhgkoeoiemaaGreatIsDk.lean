/- IsDesk on both sides. -/
import Derived.Test.YtdpkhgkoeoiemaaGreatDeskL
import Derived.Test.YtdpkhgkoeoiemaaGreatIsMi
import Derived.Test.YtdpkhgkoeoiemaaGreatModF
import Derived.Test.YtdpkhgkoeoiemaaGreatIsLam
namespace Go.Proofs.YtdpkhgkoeoiemaaGreat
open Go.RowKit
set_option linter.unusedVariables false

/-- what a desk is -/
noncomputable def isDkB (X : DD) : Bool := isMiB X.m && (isSqB X.s && (isMiB X.d && (polB X.v X.p && (modB X.g X.a && isLB X.l))))
theorem lenT {xss : List (List Int)} {n : Nat} (h : n + totalL xss ≤ 1048576) : totalL xss ≤ 2000000 := by omega

set_option maxRecDepth 100000 in
set_option maxHeartbeats 2000000 in
theorem sIsDesk_any (D : DV) (X : DD) (w : World) (h : RdDesk w w.heap.size D X) (hs : szD D X ≤ 1048576) :
    Calls Tryz.prog 5 #[.agg #[.slice D.m.A D.m.n D.m.c, .slice D.s.A D.s.n D.s.c, .slice D.d.A D.d.n D.d.c, .int .i64 X.v, .slice D.p.A D.p.n D.p.c, .slice D.g.A D.g.n D.g.c, .slice D.a.A D.a.n D.a.c, .slice D.l.A D.l.n D.l.c]] w (RetBb (isDkB X) w) := by
  obtain ⟨w0, hw0⟩ : ∃ w0, w0 = w.alloc (.cells #[.slice D.m.A D.m.n D.m.c, .slice D.s.A D.s.n D.s.c, .slice D.d.A D.d.n D.d.c, .int .i64 X.v, .slice D.p.A D.p.n D.p.c, .slice D.g.A D.g.n D.g.c, .slice D.a.A D.a.n D.a.c, .slice D.l.A D.l.n D.l.c] 44) := ⟨_, rfl⟩
  obtain ⟨b, hbe⟩ : ∃ b, b = w.heap.size := ⟨_, rfl⟩
  have hb0 : Below w.heap.size w w0 := by rw [hw0]; exact (Below.refl _ _).alloc (Nat.le_refl _) _
  have R0 := Lib.hid (show RowC w0 b 8 (fun i => (#[.slice D.m.A D.m.n D.m.c, .slice D.s.A D.s.n D.s.c, .slice D.d.A D.d.n D.d.c, .int .i64 X.v, .slice D.p.A D.p.n D.p.c, .slice D.g.A D.g.n D.g.c, .slice D.a.A D.a.n D.a.c, .slice D.l.A D.l.n D.l.c] : Array Value)[i]?.getD (.int .i64 0)) from by rw [hw0]; exact RowC.new hbe (by simp))
  have H := Lib.hid ((h.below hb0).mono hb0.size)
  have Hw := Lib.hid hw0
  have Hbe := Lib.hid hbe
  have Hb0 := Lib.hid hb0
  have X0' := Lib.hid (Below.refl w0.heap.size w0)
  unfold szD at hs
  have C0 := fun (W : World) (hB : Below w0.heap.size w0 W) => Lib.hid (show Calls Tryz.prog 15 #[.agg #[.slice D.m.A D.m.n D.m.c]] W (RetBb (isMiB X.m) W) from l04Is_any D.m.A D.m.n D.m.c X.m W ((H.out.m.below hB).mono hB.size) (by omega) (by omega))
  have C1 := fun (W : World) (hB : Below w0.heap.size w0 W) => Lib.hid (show Calls Tryz.prog 16 #[.agg #[.slice D.s.A D.s.n D.s.c]] W (RetBb (isSqB X.s) W) from l03Is_any D.s.A D.s.n D.s.c X.s W ((H.out.s.below hB).mono hB.size) (by omega) (by omega))
  have C2 := fun (W : World) (hB : Below w0.heap.size w0 W) => Lib.hid (show Calls Tryz.prog 17 #[.agg #[.slice D.d.A D.d.n D.d.c]] W (RetBb (isMiB X.d) W) from l06Is_any D.d.A D.d.n D.d.c X.d W ((H.out.d.below hB).mono hB.size) (by omega) (by omega))
  have C3 := fun (W : World) (hB : Below w0.heap.size w0 W) => Lib.hid (show Calls Tryz.prog 18 #[.agg #[.int .i64 X.v, .slice D.p.A D.p.n D.p.c]] W (RetBb (polB X.v X.p) W) from l08Is_any X.v D.p.A D.p.n D.p.c X.p W ((H.out.p.below hB).mono hB.size) (by omega) (by omega))
  have C4 := fun (W : World) (hB : Below w0.heap.size w0 W) => Lib.hid (show Calls Tryz.prog 19 #[.agg #[.slice D.g.A D.g.n D.g.c, .slice D.a.A D.a.n D.a.c]] W (RetBb (modB X.g X.a) W) from l11Is_any D.g.A D.a.A D.g.n D.g.c D.a.n D.a.c X.g X.a W ⟨(H.out.g.below hB).mono hB.size, (H.out.a.below hB).mono hB.size⟩ (by omega) (by omega) (by omega))
  have C5 := fun (W : World) (hB : Below w0.heap.size w0 W) => Lib.hid (show Calls Tryz.prog 20 #[.slice D.l.A D.l.n D.l.c] W (RetBb (isLB X.l) W) from (l16Is_any D.l.A D.l.n D.l.c _ X.l W ((H.out.l.below hB).mono hB.size) (by omega) (by omega)).mono fun _ _ ⟨a, q, e⟩ => ⟨a, by rw [e]; exact below_drewN (Below.refl _ _) q⟩)
  obtain ⟨V, hV⟩ : ∃ V, V = isDkB X := ⟨_, rfl⟩
  rw [← hV]
  unfold isDkB at hV
  obtain ⟨r0, hr0⟩ : ∃ r, r = isMiB X.m := ⟨_, rfl⟩
  obtain ⟨r1, hr1⟩ : ∃ r, r = isSqB X.s := ⟨_, rfl⟩
  obtain ⟨r2, hr2⟩ : ∃ r, r = isMiB X.d := ⟨_, rfl⟩
  obtain ⟨r3, hr3⟩ : ∃ r, r = polB X.v X.p := ⟨_, rfl⟩
  obtain ⟨r4, hr4⟩ : ∃ r, r = modB X.g X.a := ⟨_, rfl⟩
  obtain ⟨r5, hr5⟩ : ∃ r, r = isLB X.l := ⟨_, rfl⟩
  rw [← hr0] at C0
  rw [← hr1] at C1
  rw [← hr2] at C2
  rw [← hr3] at C3
  rw [← hr4] at C4
  rw [← hr5] at C5
  rw [← hr0, ← hr1, ← hr2, ← hr3, ← hr4, ← hr5] at hV
  have HV := Lib.hid hV
  obtain ⟨R, hR⟩ : ∃ R, R = RetBb V w := ⟨_, rfl⟩
  have HR := Lib.hid hR
  rw [← hR]
  clear h hs hw0 hbe hb0 hV hR hr0 hr1 hr2 hr3 hr4 hr5
  have k0 : _ = some (.slice D.m.A D.m.n D.m.c : Value) := R0.out.c 0 (by omega)
  go_enter Tryz.func5, Tryz.ntmps5
  go_wp2_with fail
  rw [← Hw.out, ← Hbe.out]
  go_wp2_with fail
  refine (C0 w0 X0'.out).out.mono ?_
  rintro e w1 ⟨rfl, hb⟩
  have X1 := Lib.hid (X0'.out.trans (hb.mono X0'.out.size))
  clear hb k0
  cases r0
  · go_wp2_with fail
    rw [HR.out]
    exact RetBb.mk (by rw [HV.out]; rfl) (Hb0.out.trans (X1.out.mono Hb0.out.size))
  have R1 := R0.out.below X1.out
  have k1 : _ = some (.slice D.s.A D.s.n D.s.c : Value) := R1.c 1 (by omega)
  clear R1
  go_wp2_with fail
  refine (C1 w1 X1.out).out.mono ?_
  rintro e w2 ⟨rfl, hb⟩
  have X2 := Lib.hid (X1.out.trans (hb.mono X1.out.size))
  clear hb k1
  cases r1
  · go_wp2_with fail
    rw [HR.out]
    exact RetBb.mk (by rw [HV.out]; rfl) (Hb0.out.trans (X2.out.mono Hb0.out.size))
  have R2 := R0.out.below X2.out
  have k2 : _ = some (.slice D.d.A D.d.n D.d.c : Value) := R2.c 2 (by omega)
  clear R2
  go_wp2_with fail
  refine (C2 w2 X2.out).out.mono ?_
  rintro e w3 ⟨rfl, hb⟩
  have X3 := Lib.hid (X2.out.trans (hb.mono X2.out.size))
  clear hb k2
  cases r2
  · go_wp2_with fail
    rw [HR.out]
    exact RetBb.mk (by rw [HV.out]; rfl) (Hb0.out.trans (X3.out.mono Hb0.out.size))
  have R3 := R0.out.below X3.out
  have k3 : _ = some (.int .i64 X.v : Value) := R3.c 3 (by omega)
  have k4 : _ = some (.slice D.p.A D.p.n D.p.c : Value) := R3.c 4 (by omega)
  clear R3
  go_wp2_with fail
  refine (C3 w3 X3.out).out.mono ?_
  rintro e w4 ⟨rfl, hb⟩
  have X4 := Lib.hid (X3.out.trans (hb.mono X3.out.size))
  clear hb k3 k4
  cases r3
  · go_wp2_with fail
    rw [HR.out]
    exact RetBb.mk (by rw [HV.out]; rfl) (Hb0.out.trans (X4.out.mono Hb0.out.size))
  have R4 := R0.out.below X4.out
  have k5 : _ = some (.slice D.g.A D.g.n D.g.c : Value) := R4.c 5 (by omega)
  have k6 : _ = some (.slice D.a.A D.a.n D.a.c : Value) := R4.c 6 (by omega)
  clear R4
  go_wp2_with fail
  refine (C4 w4 X4.out).out.mono ?_
  rintro e w5 ⟨rfl, hb⟩
  have X5 := Lib.hid (X4.out.trans (hb.mono X4.out.size))
  clear hb k5 k6
  cases r4
  · go_wp2_with fail
    rw [HR.out]
    exact RetBb.mk (by rw [HV.out]; rfl) (Hb0.out.trans (X5.out.mono Hb0.out.size))
  have R5 := R0.out.below X5.out
  have k7 : _ = some (.slice D.l.A D.l.n D.l.c : Value) := R5.c 7 (by omega)
  clear R5
  go_wp2_with fail
  refine (C5 w5 X5.out).out.mono ?_
  rintro e w6 ⟨rfl, hb⟩
  have X6 := Lib.hid (X5.out.trans (hb.mono X5.out.size))
  clear hb k7
  go_wp2_with fail
  rw [HR.out]
  exact RetBb.mk (by rw [HV.out]; rfl) (Hb0.out.trans (X6.out.mono Hb0.out.size))

set_option maxRecDepth 100000 in
set_option maxHeartbeats 2000000 in
theorem iIsDesk_any (D : DV) (X : DD) (w : World) (h : RdDesk w w.heap.size D X) (hs : szD D X ≤ 1048576) :
    Calls Tryz.prog 7 #[.agg #[.slice D.m.A D.m.n D.m.c, .slice D.s.A D.s.n D.s.c, .slice D.d.A D.d.n D.d.c, .int .i64 X.v, .slice D.p.A D.p.n D.p.c, .slice D.g.A D.g.n D.g.c, .slice D.a.A D.a.n D.a.c, .slice D.l.A D.l.n D.l.c]] w (RetBb (isDkB X) w) := by
  obtain ⟨w0, hw0⟩ : ∃ w0, w0 = w.alloc (.cells #[.slice D.m.A D.m.n D.m.c, .slice D.s.A D.s.n D.s.c, .slice D.d.A D.d.n D.d.c, .int .i64 X.v, .slice D.p.A D.p.n D.p.c, .slice D.g.A D.g.n D.g.c, .slice D.a.A D.a.n D.a.c, .slice D.l.A D.l.n D.l.c] 44) := ⟨_, rfl⟩
  obtain ⟨b, hbe⟩ : ∃ b, b = w.heap.size := ⟨_, rfl⟩
  have hb0 : Below w.heap.size w w0 := by rw [hw0]; exact (Below.refl _ _).alloc (Nat.le_refl _) _
  have R0 := Lib.hid (show RowC w0 b 8 (fun i => (#[.slice D.m.A D.m.n D.m.c, .slice D.s.A D.s.n D.s.c, .slice D.d.A D.d.n D.d.c, .int .i64 X.v, .slice D.p.A D.p.n D.p.c, .slice D.g.A D.g.n D.g.c, .slice D.a.A D.a.n D.a.c, .slice D.l.A D.l.n D.l.c] : Array Value)[i]?.getD (.int .i64 0)) from by rw [hw0]; exact RowC.new hbe (by simp))
  have H := Lib.hid ((h.below hb0).mono hb0.size)
  have Hw := Lib.hid hw0
  have Hbe := Lib.hid hbe
  have Hb0 := Lib.hid hb0
  have X0' := Lib.hid (Below.refl w0.heap.size w0)
  unfold szD at hs
  have C0 := fun (W : World) (hB : Below w0.heap.size w0 W) => Lib.hid (show Calls Tryz.prog 27 #[.agg #[.slice D.m.A D.m.n D.m.c]] W (RetBb (isMiB X.m) W) from isMilnor_any D.m.A D.m.n D.m.c X.m W ((H.out.m.below hB).mono hB.size) (by omega) (by omega))
  have C1 := fun (W : World) (hB : Below w0.heap.size w0 W) => Lib.hid (show Calls Tryz.prog 28 #[.agg #[.slice D.s.A D.s.n D.s.c]] W (RetBb (isSqB X.s) W) from iIsSquares D.s.A D.s.n D.s.c X.s W ((H.out.s.below hB).mono hB.size) (by omega) (by omega))
  have C2 := fun (W : World) (hB : Below w0.heap.size w0 W) => Lib.hid (show Calls Tryz.prog 29 #[.agg #[.slice D.d.A D.d.n D.d.c]] W (RetBb (isMiB X.d) W) from isDual_any D.d.A D.d.n D.d.c X.d W ((H.out.d.below hB).mono hB.size) (by omega) (by omega))
  have C3 := fun (W : World) (hB : Below w0.heap.size w0 W) => Lib.hid (show Calls Tryz.prog 30 #[.agg #[.int .i64 X.v, .slice D.p.A D.p.n D.p.c]] W (RetBb (polB X.v X.p) W) from iIsPoly X.v D.p.A D.p.n D.p.c X.p W ((H.out.p.below hB).mono hB.size) (by omega) (by omega))
  have C4 := fun (W : World) (hB : Below w0.heap.size w0 W) => Lib.hid (show Calls Tryz.prog 31 #[.agg #[.slice D.g.A D.g.n D.g.c, .slice D.a.A D.a.n D.a.c]] W (RetBb (modB X.g X.a) W) from isModule_any D.g.A D.a.A D.g.n D.g.c D.a.n D.a.c X.g X.a W ⟨(H.out.g.below hB).mono hB.size, (H.out.a.below hB).mono hB.size⟩ (by omega) (by omega) (by omega))
  have C5 := fun (W : World) (hB : Below w0.heap.size w0 W) => Lib.hid (show Calls Tryz.prog 32 #[.agg #[.slice D.l.A D.l.n D.l.c]] W (RetBb (isLB X.l) W) from iIsLambda D.l.A D.l.n D.l.c X.l W ((H.out.l.below hB).mono hB.size) (by omega) (by omega))
  obtain ⟨V, hV⟩ : ∃ V, V = isDkB X := ⟨_, rfl⟩
  rw [← hV]
  unfold isDkB at hV
  obtain ⟨r0, hr0⟩ : ∃ r, r = isMiB X.m := ⟨_, rfl⟩
  obtain ⟨r1, hr1⟩ : ∃ r, r = isSqB X.s := ⟨_, rfl⟩
  obtain ⟨r2, hr2⟩ : ∃ r, r = isMiB X.d := ⟨_, rfl⟩
  obtain ⟨r3, hr3⟩ : ∃ r, r = polB X.v X.p := ⟨_, rfl⟩
  obtain ⟨r4, hr4⟩ : ∃ r, r = modB X.g X.a := ⟨_, rfl⟩
  obtain ⟨r5, hr5⟩ : ∃ r, r = isLB X.l := ⟨_, rfl⟩
  rw [← hr0] at C0
  rw [← hr1] at C1
  rw [← hr2] at C2
  rw [← hr3] at C3
  rw [← hr4] at C4
  rw [← hr5] at C5
  rw [← hr0, ← hr1, ← hr2, ← hr3, ← hr4, ← hr5] at hV
  have HV := Lib.hid hV
  obtain ⟨R, hR⟩ : ∃ R, R = RetBb V w := ⟨_, rfl⟩
  have HR := Lib.hid hR
  rw [← hR]
  clear h hs hw0 hbe hb0 hV hR hr0 hr1 hr2 hr3 hr4 hr5
  have k0 : _ = some (.slice D.m.A D.m.n D.m.c : Value) := R0.out.c 0 (by omega)
  go_enter Tryz.func7, Tryz.ntmps7
  go_wp2_with fail
  rw [← Hw.out, ← Hbe.out]
  go_wp2_with fail
  refine (C0 w0 X0'.out).out.mono ?_
  rintro e w1 ⟨rfl, hb⟩
  have X1 := Lib.hid (X0'.out.trans (hb.mono X0'.out.size))
  clear hb k0
  cases r0
  · go_wp2_with fail
    rw [HR.out]
    exact RetBb.mk (by rw [HV.out]; rfl) (Hb0.out.trans (X1.out.mono Hb0.out.size))
  have R1 := R0.out.below X1.out
  have k1 : _ = some (.slice D.s.A D.s.n D.s.c : Value) := R1.c 1 (by omega)
  clear R1
  go_wp2_with fail
  refine (C1 w1 X1.out).out.mono ?_
  rintro e w2 ⟨rfl, hb⟩
  have X2 := Lib.hid (X1.out.trans (hb.mono X1.out.size))
  clear hb k1
  cases r1
  · go_wp2_with fail
    rw [HR.out]
    exact RetBb.mk (by rw [HV.out]; rfl) (Hb0.out.trans (X2.out.mono Hb0.out.size))
  have R2 := R0.out.below X2.out
  have k2 : _ = some (.slice D.d.A D.d.n D.d.c : Value) := R2.c 2 (by omega)
  clear R2
  go_wp2_with fail
  refine (C2 w2 X2.out).out.mono ?_
  rintro e w3 ⟨rfl, hb⟩
  have X3 := Lib.hid (X2.out.trans (hb.mono X2.out.size))
  clear hb k2
  cases r2
  · go_wp2_with fail
    rw [HR.out]
    exact RetBb.mk (by rw [HV.out]; rfl) (Hb0.out.trans (X3.out.mono Hb0.out.size))
  have R3 := R0.out.below X3.out
  have k3 : _ = some (.int .i64 X.v : Value) := R3.c 3 (by omega)
  have k4 : _ = some (.slice D.p.A D.p.n D.p.c : Value) := R3.c 4 (by omega)
  clear R3
  go_wp2_with fail
  refine (C3 w3 X3.out).out.mono ?_
  rintro e w4 ⟨rfl, hb⟩
  have X4 := Lib.hid (X3.out.trans (hb.mono X3.out.size))
  clear hb k3 k4
  cases r3
  · go_wp2_with fail
    rw [HR.out]
    exact RetBb.mk (by rw [HV.out]; rfl) (Hb0.out.trans (X4.out.mono Hb0.out.size))
  have R4 := R0.out.below X4.out
  have k5 : _ = some (.slice D.g.A D.g.n D.g.c : Value) := R4.c 5 (by omega)
  have k6 : _ = some (.slice D.a.A D.a.n D.a.c : Value) := R4.c 6 (by omega)
  clear R4
  go_wp2_with fail
  refine (C4 w4 X4.out).out.mono ?_
  rintro e w5 ⟨rfl, hb⟩
  have X5 := Lib.hid (X4.out.trans (hb.mono X4.out.size))
  clear hb k5 k6
  cases r4
  · go_wp2_with fail
    rw [HR.out]
    exact RetBb.mk (by rw [HV.out]; rfl) (Hb0.out.trans (X5.out.mono Hb0.out.size))
  have R5 := R0.out.below X5.out
  have k7 : _ = some (.slice D.l.A D.l.n D.l.c : Value) := R5.c 7 (by omega)
  clear R5
  go_wp2_with fail
  refine (C5 w5 X5.out).out.mono ?_
  rintro e w6 ⟨rfl, hb⟩
  have X6 := Lib.hid (X5.out.trans (hb.mono X5.out.size))
  clear hb k7
  go_wp2_with fail
  rw [HR.out]
  exact RetBb.mk (by rw [HV.out]; rfl) (Hb0.out.trans (X6.out.mono Hb0.out.size))
end Go.Proofs.YtdpkhgkoeoiemaaGreat
