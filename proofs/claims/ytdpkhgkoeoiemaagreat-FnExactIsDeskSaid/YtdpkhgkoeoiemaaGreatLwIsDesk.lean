/- The law FnExactIsDesk. -/
import Derived.Test.YtdpkhgkoeoiemaaGreatIsDk
import Derived.Test.YtdpkhgkoeoiemaaGreatLawK
namespace Go.Proofs.YtdpkhgkoeoiemaaGreat
open Go.RowKit
set_option linter.unusedVariables false

theorem okD {w : World} {B : Nat} {D : DV} {X : DD} (h : RdDesk w B D X) (hs : szD D X ≤ 1048576) : OkDesk X := by
  unfold szD at hs
  have h1 := h.m.len; have h2 := h.s.len; have h3 := h.d.len; have h4 := h.p.len; have h5 := h.a.len; have h6 := h.l.len; have h7 := h.g.len
  constructor
  · unfold DD.tot; omega
  all_goals omega
theorem szD_of {w w' : World} {B B' : Nat} {D E : DV} {X : DD} (h : RdDesk w B D X) (k : RdDesk w' B' E X) : szD E X = szD D X := by
  unfold szD
  rw [← h.m.len, ← h.s.len, ← h.d.len, ← h.p.len, ← h.a.len, ← h.l.len, ← h.g.len, ← k.m.len, ← k.s.len, ← k.d.len, ← k.p.len, ← k.a.len, ← k.l.len, ← k.g.len]
set_option maxRecDepth 100000 in
set_option maxHeartbeats 4000000 in
theorem coreIsDesk (D : DV) (X : DD) (w : World) (h : RdDesk w w.heap.size D X) (hL : LenD D X) (hs : szD D X ≤ 1048576) :
    Calls Tryz.prog 3 #[.agg #[.slice D.m.A D.m.n D.m.c, .slice D.s.A D.s.n D.s.c, .slice D.d.A D.d.n D.d.c, .int .i64 X.v, .slice D.p.A D.p.n D.p.c, .slice D.g.A D.g.n D.g.c, .slice D.a.A D.a.n D.a.c, .slice D.l.A D.l.n D.l.c]] w fun e w' => e = .returned (.bool true) ∧ Below w.heap.size w w' := by
  obtain ⟨w0, hw0⟩ : ∃ w0, w0 = w.alloc (.cells #[.slice D.m.A D.m.n D.m.c, .slice D.s.A D.s.n D.s.c, .slice D.d.A D.d.n D.d.c, .int .i64 X.v, .slice D.p.A D.p.n D.p.c, .slice D.g.A D.g.n D.g.c, .slice D.a.A D.a.n D.a.c, .slice D.l.A D.l.n D.l.c] 34) := ⟨_, rfl⟩
  obtain ⟨b, hbe⟩ : ∃ b, b = w.heap.size := ⟨_, rfl⟩
  have hb0 : Below b w w0 := by rw [hw0, hbe]; exact (Below.refl _ _).alloc (Nat.le_refl _) _
  have R0 := Lib.hid (show RowC w0 b 8 (fun i => (#[.slice D.m.A D.m.n D.m.c, .slice D.s.A D.s.n D.s.c, .slice D.d.A D.d.n D.d.c, .int .i64 X.v, .slice D.p.A D.p.n D.p.c, .slice D.g.A D.g.n D.g.c, .slice D.a.A D.a.n D.a.c, .slice D.l.A D.l.n D.l.c] : Array Value)[i]?.getD (.int .i64 0)) from by rw [hw0]; exact RowC.new hbe (by simp))
  have H := Lib.hid (show RdDesk w0 b D X from by rw [hbe]; exact h.below (hbe ▸ hb0))
  have Hw := Lib.hid hw0
  have Hbe := Lib.hid hbe
  have YB := Lib.hid hb0
  have Y0 := Lib.hid (Ext.refl w0)
  have Z0 := Lib.hid (show b < w0.heap.size from R0.out.lt)
  have HL := Lib.hid hL
  clear h hw0 hbe hb0 hL
  have HS := Lib.hid hs
  have HO := Lib.hid (okD H.out hs)
  obtain ⟨v, hv⟩ : ∃ v, v = isDkB X := ⟨_, rfl⟩
  have CS := fun (E : DV) (W : World) (hr : RdDesk W W.heap.size E X) => Lib.hid (sIsDesk_any E X W hr (by rw [szD_of H.out hr]; exact hs))
  have CI := fun (E : DV) (W : World) (hr : RdDesk W W.heap.size E X) => Lib.hid (iIsDesk_any E X W hr (by rw [szD_of H.out hr]; exact hs))
  rw [← hv] at CS CI
  have hvv : (v != v) = false := by cases v <;> rfl
  clear hs hv
  have k0 : _ = some (.slice D.m.A D.m.n D.m.c : Value) := R0.out.c 0 (by omega)
  have k1 : _ = some (.slice D.s.A D.s.n D.s.c : Value) := R0.out.c 1 (by omega)
  have k2 : _ = some (.slice D.d.A D.d.n D.d.c : Value) := R0.out.c 2 (by omega)
  have k3 : _ = some (.int .i64 X.v : Value) := R0.out.c 3 (by omega)
  have k4 : _ = some (.slice D.p.A D.p.n D.p.c : Value) := R0.out.c 4 (by omega)
  have k5 : _ = some (.slice D.g.A D.g.n D.g.c : Value) := R0.out.c 5 (by omega)
  have k6 : _ = some (.slice D.a.A D.a.n D.a.c : Value) := R0.out.c 6 (by omega)
  have k7 : _ = some (.slice D.l.A D.l.n D.l.c : Value) := R0.out.c 7 (by omega)
  go_enter Tryz.func3, Tryz.ntmps3
  go_wp2_with fail
  rw [← Hw.out, ← Hbe.out]
  go_wp2_with fail
  refine (szDesk_any D X b _ 1048576 H.out (Nat.le_of_lt Z0.out) (by omega) (by omega) HL.out).mono ?_
  rintro e w1 ⟨rfl, hb⟩
  rw [szR_ok (by have := HS.out; omega)]
  have Y1 := Lib.hid (Ext.trans Y0.out hb)
  have R1 := Lib.hid (R0.out.below hb)
  have hpos : 0 ≤ (1048576 : Int) - (szD D X : Int) := by have := HS.out; omega
  clear hb
  clear k0 k1 k2 k3 k4 k5 k6 k7
  have k0 : _ = some (.slice D.m.A D.m.n D.m.c : Value) := R1.out.c 0 (by omega)
  have k1 : _ = some (.slice D.s.A D.s.n D.s.c : Value) := R1.out.c 1 (by omega)
  have k2 : _ = some (.slice D.d.A D.d.n D.d.c : Value) := R1.out.c 2 (by omega)
  have k3 : _ = some (.int .i64 X.v : Value) := R1.out.c 3 (by omega)
  have k4 : _ = some (.slice D.p.A D.p.n D.p.c : Value) := R1.out.c 4 (by omega)
  have k5 : _ = some (.slice D.g.A D.g.n D.g.c : Value) := R1.out.c 5 (by omega)
  have k6 : _ = some (.slice D.a.A D.a.n D.a.c : Value) := R1.out.c 6 (by omega)
  have k7 : _ = some (.slice D.l.A D.l.n D.l.c : Value) := R1.out.c 7 (by omega)
  go_wp2_with fail
  refine (toDesk_any D X w1 ((H.out.below (Y1.out.mono (Nat.le_of_lt R0.out.lt))).mono (Nat.le_of_lt R1.out.lt)) HS.out).mono ?_
  rintro e w2 ⟨D2, rfl, hr2, hb⟩
  have Y2 := Lib.hid (Ext.trans Y1.out hb)
  have R2 := Lib.hid (R1.out.below hb)
  have C2 := CS D2 w2 hr2
  clear hb hr2 hpos
  clear k0 k1 k2 k3 k4 k5 k6 k7
  go_wp2_with fail
  refine C2.out.mono ?_
  rintro e w3 ⟨rfl, hb⟩
  have Y3 := Lib.hid (Ext.trans Y2.out hb)
  have R3 := Lib.hid (R2.out.below hb)
  clear hb C2
  have k0 : _ = some (.slice D.m.A D.m.n D.m.c : Value) := R3.out.c 0 (by omega)
  have k1 : _ = some (.slice D.s.A D.s.n D.s.c : Value) := R3.out.c 1 (by omega)
  have k2 : _ = some (.slice D.d.A D.d.n D.d.c : Value) := R3.out.c 2 (by omega)
  have k3 : _ = some (.int .i64 X.v : Value) := R3.out.c 3 (by omega)
  have k4 : _ = some (.slice D.p.A D.p.n D.p.c : Value) := R3.out.c 4 (by omega)
  have k5 : _ = some (.slice D.g.A D.g.n D.g.c : Value) := R3.out.c 5 (by omega)
  have k6 : _ = some (.slice D.a.A D.a.n D.a.c : Value) := R3.out.c 6 (by omega)
  have k7 : _ = some (.slice D.l.A D.l.n D.l.c : Value) := R3.out.c 7 (by omega)
  go_wp2_with fail
  refine (toDesk_any D X w3 ((H.out.below (Y3.out.mono (Nat.le_of_lt R0.out.lt))).mono (Nat.le_of_lt R3.out.lt)) HS.out).mono ?_
  rintro e w4 ⟨D4, rfl, hr4, hb⟩
  have Y4 := Lib.hid (Ext.trans Y3.out hb)
  have R4 := Lib.hid (R3.out.below hb)
  have Q4 := Lib.hid hr4
  clear hb hr4
  clear k0 k1 k2 k3 k4 k5 k6 k7
  go_wp2_with fail
  obtain ⟨w5, hw5⟩ : ∃ V, V = w4.alloc (.cells #[.slice D4.m.A D4.m.n D4.m.c, .slice D4.s.A D4.s.n D4.s.c, .slice D4.d.A D4.d.n D4.d.c, .int .i64 X.v, .slice D4.p.A D4.p.n D4.p.c, .slice D4.g.A D4.g.n D4.g.c, .slice D4.a.A D4.a.n D4.a.c, .slice D4.l.A D4.l.n D4.l.c] 44) := ⟨_, rfl⟩
  obtain ⟨b5, hb5⟩ : ∃ B, B = w4.heap.size := ⟨_, rfl⟩
  rw [← hw5, ← hb5]
  have hb := ext_new hw5
  have S5 := Lib.hid (show RowC w5 b5 8 (fun i => (#[.slice D4.m.A D4.m.n D4.m.c, .slice D4.s.A D4.s.n D4.s.c, .slice D4.d.A D4.d.n D4.d.c, .int .i64 X.v, .slice D4.p.A D4.p.n D4.p.c, .slice D4.g.A D4.g.n D4.g.c, .slice D4.a.A D4.a.n D4.a.c, .slice D4.l.A D4.l.n D4.l.c] : Array Value)[i]?.getD (.int .i64 0)) from by rw [hw5]; exact RowC.new hb5 (by simp))
  have Y5 := Lib.hid (Ext.trans Y4.out hb)
  have R5 := Lib.hid (R4.out.below hb)
  have Q5 := Lib.hid ((Q4.out.below hb).mono hb.size)
  have C5 := CI D4 w5 Q5.out
  clear hb hw5 hb5
  have k0 : _ = some (.slice D4.m.A D4.m.n D4.m.c : Value) := S5.out.c 0 (by omega)
  have k1 : _ = some (.slice D4.s.A D4.s.n D4.s.c : Value) := S5.out.c 1 (by omega)
  have k2 : _ = some (.slice D4.d.A D4.d.n D4.d.c : Value) := S5.out.c 2 (by omega)
  have k3 : _ = some (.int .i64 X.v : Value) := S5.out.c 3 (by omega)
  have k4 : _ = some (.slice D4.p.A D4.p.n D4.p.c : Value) := S5.out.c 4 (by omega)
  have k5 : _ = some (.slice D4.g.A D4.g.n D4.g.c : Value) := S5.out.c 5 (by omega)
  have k6 : _ = some (.slice D4.a.A D4.a.n D4.a.c : Value) := S5.out.c 6 (by omega)
  have k7 : _ = some (.slice D4.l.A D4.l.n D4.l.c : Value) := S5.out.c 7 (by omega)
  try go_wp2_with fail
  refine C5.out.mono ?_
  rintro e w6 ⟨rfl, hb⟩
  have Y6 := Lib.hid (Ext.trans Y5.out hb)
  have R6 := Lib.hid (R5.out.below hb)
  have S6 := Lib.hid (S5.out.below hb)
  have Q6 := Lib.hid ((Q5.out.below hb).mono hb.size)
  clear hb C5
  clear k0 k1 k2 k3 k4 k5 k6 k7
  have hE := below_drewN (Ext.refl w6) 1
  have Ra := Lib.hid (show RowC w6.drew b 8 (fun i => (#[.slice D.m.A D.m.n D.m.c, .slice D.s.A D.s.n D.s.c, .slice D.d.A D.d.n D.d.c, .int .i64 X.v, .slice D.p.A D.p.n D.p.c, .slice D.g.A D.g.n D.g.c, .slice D.a.A D.a.n D.a.c, .slice D.l.A D.l.n D.l.c] : Array Value)[i]?.getD (.int .i64 0)) from R6.out.below hE)
  have Sa := Lib.hid (show RowC w6.drew b5 8 (fun i => (#[.slice D4.m.A D4.m.n D4.m.c, .slice D4.s.A D4.s.n D4.s.c, .slice D4.d.A D4.d.n D4.d.c, .int .i64 X.v, .slice D4.p.A D4.p.n D4.p.c, .slice D4.g.A D4.g.n D4.g.c, .slice D4.a.A D4.a.n D4.a.c, .slice D4.l.A D4.l.n D4.l.c] : Array Value)[i]?.getD (.int .i64 0)) from S6.out.below hE)
  have Ya := Lib.hid (show Ext w0 w6.drew from Ext.trans Y6.out hE)
  have Qa := Lib.hid (show RdDesk w6.drew w6.drew.heap.size D4 X from (Q6.out.below hE).mono hE.size)
  clear hE
  have k0 : _ = some (.slice D.m.A D.m.n D.m.c : Value) := R6.out.c 0 (by omega)
  have k1 : _ = some (.slice D.s.A D.s.n D.s.c : Value) := R6.out.c 1 (by omega)
  have k2 : _ = some (.slice D.d.A D.d.n D.d.c : Value) := R6.out.c 2 (by omega)
  have k3 : _ = some (.int .i64 X.v : Value) := R6.out.c 3 (by omega)
  have k4 : _ = some (.slice D.p.A D.p.n D.p.c : Value) := R6.out.c 4 (by omega)
  have k5 : _ = some (.slice D.g.A D.g.n D.g.c : Value) := R6.out.c 5 (by omega)
  have k6 : _ = some (.slice D.a.A D.a.n D.a.c : Value) := R6.out.c 6 (by omega)
  have k7 : _ = some (.slice D.l.A D.l.n D.l.c : Value) := R6.out.c 7 (by omega)
  have m0 : _ = some (.slice D4.m.A D4.m.n D4.m.c : Value) := S6.out.c 0 (by omega)
  have m1 : _ = some (.slice D4.s.A D4.s.n D4.s.c : Value) := S6.out.c 1 (by omega)
  have m2 : _ = some (.slice D4.d.A D4.d.n D4.d.c : Value) := S6.out.c 2 (by omega)
  have m3 : _ = some (.int .i64 X.v : Value) := S6.out.c 3 (by omega)
  have m4 : _ = some (.slice D4.p.A D4.p.n D4.p.c : Value) := S6.out.c 4 (by omega)
  have m5 : _ = some (.slice D4.g.A D4.g.n D4.g.c : Value) := S6.out.c 5 (by omega)
  have m6 : _ = some (.slice D4.a.A D4.a.n D4.a.c : Value) := S6.out.c 6 (by omega)
  have m7 : _ = some (.slice D4.l.A D4.l.n D4.l.c : Value) := S6.out.c 7 (by omega)
  go_wp2_with fail
  go_region_held3 (fun w' => w'.cell? ⟨b5, 0, none⟩ = some (.slice D4.m.A D4.m.n D4.m.c : Value) ∧ w'.cell? ⟨b5, 1, none⟩ = some (.slice D4.s.A D4.s.n D4.s.c : Value) ∧ w'.cell? ⟨b5, 2, none⟩ = some (.slice D4.d.A D4.d.n D4.d.c : Value) ∧ w'.cell? ⟨b5, 3, none⟩ = some (.int .i64 X.v : Value) ∧ w'.cell? ⟨b5, 4, none⟩ = some (.slice D4.p.A D4.p.n D4.p.c : Value) ∧ w'.cell? ⟨b5, 5, none⟩ = some (.slice D4.g.A D4.g.n D4.g.c : Value) ∧ w'.cell? ⟨b5, 6, none⟩ = some (.slice D4.a.A D4.a.n D4.a.c : Value) ∧ w'.cell? ⟨b5, 7, none⟩ = some (.slice D4.l.A D4.l.n D4.l.c : Value) ∧ w'.cell? ⟨b, 0, none⟩ = some (.slice D.m.A D.m.n D.m.c : Value) ∧ w'.cell? ⟨b, 1, none⟩ = some (.slice D.s.A D.s.n D.s.c : Value) ∧ w'.cell? ⟨b, 2, none⟩ = some (.slice D.d.A D.d.n D.d.c : Value) ∧ w'.cell? ⟨b, 3, none⟩ = some (.int .i64 X.v : Value) ∧ w'.cell? ⟨b, 4, none⟩ = some (.slice D.p.A D.p.n D.p.c : Value) ∧ w'.cell? ⟨b, 5, none⟩ = some (.slice D.g.A D.g.n D.g.c : Value) ∧ w'.cell? ⟨b, 6, none⟩ = some (.slice D.a.A D.a.n D.a.c : Value) ∧ w'.cell? ⟨b, 7, none⟩ = some (.slice D.l.A D.l.n D.l.c : Value)) (first | exact ⟨Sa.out.c 0 (by omega), Sa.out.c 1 (by omega), Sa.out.c 2 (by omega), Sa.out.c 3 (by omega), Sa.out.c 4 (by omega), Sa.out.c 5 (by omega), Sa.out.c 6 (by omega), Sa.out.c 7 (by omega), Ra.out.c 0 (by omega), Ra.out.c 1 (by omega), Ra.out.c 2 (by omega), Ra.out.c 3 (by omega), Ra.out.c 4 (by omega), Ra.out.c 5 (by omega), Ra.out.c 6 (by omega), Ra.out.c 7 (by omega)⟩ | exact ⟨Sp.out.c 0 (by omega), Sp.out.c 1 (by omega), Sp.out.c 2 (by omega), Sp.out.c 3 (by omega), Sp.out.c 4 (by omega), Sp.out.c 5 (by omega), Sp.out.c 6 (by omega), Sp.out.c 7 (by omega), Rp.out.c 0 (by omega), Rp.out.c 1 (by omega), Rp.out.c 2 (by omega), Rp.out.c 3 (by omega), Rp.out.c 4 (by omega), Rp.out.c 5 (by omega), Rp.out.c 6 (by omega), Rp.out.c 7 (by omega)⟩ | exact ⟨Sq.out.c 0 (by omega), Sq.out.c 1 (by omega), Sq.out.c 2 (by omega), Sq.out.c 3 (by omega), Sq.out.c 4 (by omega), Sq.out.c 5 (by omega), Sq.out.c 6 (by omega), Sq.out.c 7 (by omega), Rq.out.c 0 (by omega), Rq.out.c 1 (by omega), Rq.out.c 2 (by omega), Rq.out.c 3 (by omega), Rq.out.c 4 (by omega), Rq.out.c 5 (by omega), Rq.out.c 6 (by omega), Rq.out.c 7 (by omega)⟩)
    (first
      | (go_at_call 6
         refine (toDesk_any D X _ ((H.out.below (Ya.out.mono (Nat.le_of_lt R0.out.lt))).mono (Nat.le_of_lt Ra.out.lt)) HS.out).mono ?_
         rintro e u0 ⟨D7, rfl, hr7, hb⟩
         have Yp := Lib.hid (Ext.trans Ya.out hb)
         have Rp := Lib.hid (Ra.out.below hb)
         have Sp := Lib.hid (Sa.out.below hb)
         have Qp := Lib.hid ((Qa.out.below hb).mono hb.size)
         have Q7 := Lib.hid hr7
         clear hb hr7)
      | (go_at_call 8
         refine (eqDesk_same D4 D7 X _ _ _ Qp.out Q7.out (Nat.le_refl _) (Nat.le_refl _) HO.out).mono ?_
         rintro e w7 ⟨rfl, hb⟩
         have Yq := Lib.hid (Ext.trans Yp.out hb)
         have Rq := Lib.hid (Rp.out.below hb)
         have Sq := Lib.hid (Sp.out.below hb)
         clear hb))
  go_wp2_with fail
  go_ret
  exact ⟨rfl, by rw [← Hbe.out]; exact YB.out.trans (Yq.out.mono (Nat.le_of_lt Z0.out))⟩

theorem bigIsDesk (D : DV) (X : DD) (w : World) (h : RdDesk w w.heap.size D X) (hL : LenD D X) (hs : ¬ szD D X ≤ 1048576) :
    Calls Tryz.prog 3 #[.agg #[.slice D.m.A D.m.n D.m.c, .slice D.s.A D.s.n D.s.c, .slice D.d.A D.d.n D.d.c, .int .i64 X.v, .slice D.p.A D.p.n D.p.c, .slice D.g.A D.g.n D.g.c, .slice D.a.A D.a.n D.a.c, .slice D.l.A D.l.n D.l.c]] w fun e w' => e = .returned (.bool true) ∧ Below w.heap.size w w' := by
  obtain ⟨w0, hw0⟩ : ∃ w0, w0 = w.alloc (.cells #[.slice D.m.A D.m.n D.m.c, .slice D.s.A D.s.n D.s.c, .slice D.d.A D.d.n D.d.c, .int .i64 X.v, .slice D.p.A D.p.n D.p.c, .slice D.g.A D.g.n D.g.c, .slice D.a.A D.a.n D.a.c, .slice D.l.A D.l.n D.l.c] 34) := ⟨_, rfl⟩
  obtain ⟨b, hbe⟩ : ∃ b, b = w.heap.size := ⟨_, rfl⟩
  have hb0 : Below b w w0 := by rw [hw0, hbe]; exact (Below.refl _ _).alloc (Nat.le_refl _) _
  have R0 := Lib.hid (show RowC w0 b 8 (fun i => (#[.slice D.m.A D.m.n D.m.c, .slice D.s.A D.s.n D.s.c, .slice D.d.A D.d.n D.d.c, .int .i64 X.v, .slice D.p.A D.p.n D.p.c, .slice D.g.A D.g.n D.g.c, .slice D.a.A D.a.n D.a.c, .slice D.l.A D.l.n D.l.c] : Array Value)[i]?.getD (.int .i64 0)) from by rw [hw0]; exact RowC.new hbe (by simp))
  have H := Lib.hid (show RdDesk w0 b D X from by rw [hbe]; exact h.below (hbe ▸ hb0))
  have Hw := Lib.hid hw0
  have Hbe := Lib.hid hbe
  have YB := Lib.hid hb0
  have Z0 := Lib.hid (show b < w0.heap.size from R0.out.lt)
  have HL := Lib.hid hL
  clear h hw0 hbe hb0 hL
  have HS := Lib.hid hs
  clear hs
  have k0 : _ = some (.slice D.m.A D.m.n D.m.c : Value) := R0.out.c 0 (by omega)
  have k1 : _ = some (.slice D.s.A D.s.n D.s.c : Value) := R0.out.c 1 (by omega)
  have k2 : _ = some (.slice D.d.A D.d.n D.d.c : Value) := R0.out.c 2 (by omega)
  have k3 : _ = some (.int .i64 X.v : Value) := R0.out.c 3 (by omega)
  have k4 : _ = some (.slice D.p.A D.p.n D.p.c : Value) := R0.out.c 4 (by omega)
  have k5 : _ = some (.slice D.g.A D.g.n D.g.c : Value) := R0.out.c 5 (by omega)
  have k6 : _ = some (.slice D.a.A D.a.n D.a.c : Value) := R0.out.c 6 (by omega)
  have k7 : _ = some (.slice D.l.A D.l.n D.l.c : Value) := R0.out.c 7 (by omega)
  go_enter Tryz.func3, Tryz.ntmps3
  go_wp2_with fail
  rw [← Hw.out, ← Hbe.out]
  go_wp2_with fail
  refine (szDesk_any D X b _ 1048576 H.out (Nat.le_of_lt Z0.out) (by omega) (by omega) HL.out).mono ?_
  rintro e w1 ⟨rfl, hb⟩
  rw [szR_no (by have := HS.out; omega)]
  have Y1 := Lib.hid (YB.out.trans (hb.mono (Nat.le_of_lt Z0.out)))
  clear hb
  go_wp2_with fail
  go_ret
  exact ⟨rfl, by rw [← Hbe.out]; exact Y1.out⟩
end Go.Proofs.YtdpkhgkoeoiemaaGreat
