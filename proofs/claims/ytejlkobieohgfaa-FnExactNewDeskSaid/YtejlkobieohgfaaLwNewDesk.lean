/- The walk of the law on NewDesk. -/
import Derived.Test.YtejlkobieohgfaaNewD
namespace Go.Proofs.Ytejlkobieohgfaa
open Go.RowKit
set_option linter.unusedVariables false

set_option maxRecDepth 100000 in
set_option maxHeartbeats 2000000 in
theorem coreNewDesk (w : World) : Calls Try.prog 3 #[] w fun e w' => e = .returned (.bool true) ∧ Below w.heap.size w w' := by
  obtain ⟨E, hE⟩ : ∃ E, E = endD 1 X0 := ⟨_, rfl⟩
  have hE0 : 0 ≤ E := by rw [hE]; decide
  have HE := Lib.hid hE; clear hE
  have hEE : (E != E) = false := by simp
  go_enter Try.func3, Try.ntmps3
  go_wp2_with fail
  refine (sNewDesk_any _).mono ?_
  rintro e w1 ⟨D1, K1, rfl, hO1, hK1, hb1⟩
  simp only [deskV, X0]
  obtain ⟨b1, hb1e⟩ : ∃ b, b = w1.heap.size := ⟨_, rfl⟩
  obtain ⟨w2, hw2⟩ : ∃ W, W = w1.alloc (.cells #[.slice D1.m.A D1.m.n D1.m.c, .slice D1.s.A D1.s.n D1.s.c, .slice D1.d.A D1.d.n D1.d.c, .int .i64 1, .slice D1.p.A D1.p.n D1.p.c, .slice D1.g.A D1.g.n D1.g.c, .slice D1.a.A D1.a.n D1.a.c, .slice D1.l.A D1.l.n D1.l.c] 34) := ⟨_, rfl⟩
  have hx2 : Below w1.heap.size w1 w2 := by rw [hw2]; exact (Below.refl _ _).alloc (Nat.le_refl _) _
  have hF2 : Cells [(b1, 0, .slice D1.m.A D1.m.n D1.m.c), (b1, 1, .slice D1.s.A D1.s.n D1.s.c), (b1, 2, .slice D1.d.A D1.d.n D1.d.c), (b1, 3, .int .i64 1), (b1, 4, .slice D1.p.A D1.p.n D1.p.c), (b1, 5, .slice D1.g.A D1.g.n D1.g.c), (b1, 6, .slice D1.a.A D1.a.n D1.a.c), (b1, 7, .slice D1.l.A D1.l.n D1.l.c)] w2 := by rw [hw2]; exact Cells.nil.alloc8 _ _ _ _ _ _ _ _ 34 hb1e
  have R1 := Lib.hid ((hO1.rd.below hx2).mono hx2.size)
  have B2 := Lib.hid (hb1.trans (hx2.mono hb1.size))
  have F2 := Lib.hid hF2
  have Hw2 := Lib.hid hw2
  have Hb1 := Lib.hid hb1e
  have Z2 := Lib.hid (show w2.heap.size = b1 + 1 from by rw [hw2, hb1e]; simp)
  clear hx2 hF2 hw2 hb1e hO1 hb1 hK1
  go_wp2_with fail
  rw [← Hw2.out, ← Hb1.out]
  refine (iNewDesk_any _).mono ?_
  rintro e w3 ⟨D2, K2, rfl, hO2, hK2, hb3⟩
  simp only [deskV, X0]
  have hF3 := F2.out.below hb3
  have z3 : b1 < w3.heap.size := by have := hb3.size; have := Z2.out; omega
  obtain ⟨b2, hb2e⟩ : ∃ b, b = w3.heap.size := ⟨_, rfl⟩
  obtain ⟨w4, hw4⟩ : ∃ W, W = w3.alloc (.cells #[.slice D2.m.A D2.m.n D2.m.c, .slice D2.s.A D2.s.n D2.s.c, .slice D2.d.A D2.d.n D2.d.c, .int .i64 1, .slice D2.p.A D2.p.n D2.p.c, .slice D2.g.A D2.g.n D2.g.c, .slice D2.a.A D2.a.n D2.a.c, .slice D2.l.A D2.l.n D2.l.c] 34) := ⟨_, rfl⟩
  have hx4 : Below w3.heap.size w3 w4 := by rw [hw4]; exact (Below.refl _ _).alloc (Nat.le_refl _) _
  have hF4 : Cells [(b2, 0, .slice D2.m.A D2.m.n D2.m.c), (b2, 1, .slice D2.s.A D2.s.n D2.s.c), (b2, 2, .slice D2.d.A D2.d.n D2.d.c), (b2, 3, .int .i64 1), (b2, 4, .slice D2.p.A D2.p.n D2.p.c), (b2, 5, .slice D2.g.A D2.g.n D2.g.c), (b2, 6, .slice D2.a.A D2.a.n D2.a.c), (b2, 7, .slice D2.l.A D2.l.n D2.l.c), (b1, 0, .slice D1.m.A D1.m.n D1.m.c), (b1, 1, .slice D1.s.A D1.s.n D1.s.c), (b1, 2, .slice D1.d.A D1.d.n D1.d.c), (b1, 3, .int .i64 1), (b1, 4, .slice D1.p.A D1.p.n D1.p.c), (b1, 5, .slice D1.g.A D1.g.n D1.g.c), (b1, 6, .slice D1.a.A D1.a.n D1.a.c), (b1, 7, .slice D1.l.A D1.l.n D1.l.c)] w4 := by rw [hw4]; exact hF3.alloc8 _ _ _ _ _ _ _ _ 34 hb2e
  have O2 := Lib.hid (hO2.below hx4)
  have B24 := Lib.hid (hb3.trans (hx4.mono hb3.size))
  have F4 := Lib.hid hF4
  have Hw4 := Lib.hid hw4
  have Hb2 := Lib.hid hb2e
  have HK2 := Lib.hid hK2
  have HK7 := Lib.hid (show K2 7 ≤ b2 from by rw [hb2e]; exact hO2.hi)
  have HKlo := Lib.hid hO2.lo
  have Z4 := Lib.hid (show w4.heap.size = b2 + 1 from by rw [hw4, hb2e]; simp)
  have Z21 := Lib.hid (show b1 < K2 0 from by have := Z2.out; omega)
  clear hx4 hF4 hw4 hb2e hO2 hb3 hK2
  have k0 := hF3.at_ (b := b1) (o := 0) (V := .slice D1.m.A D1.m.n D1.m.c) (by simp)
  have k1 := hF3.at_ (b := b1) (o := 1) (V := .slice D1.s.A D1.s.n D1.s.c) (by simp)
  have k2 := hF3.at_ (b := b1) (o := 2) (V := .slice D1.d.A D1.d.n D1.d.c) (by simp)
  have k3 := hF3.at_ (b := b1) (o := 3) (V := .int .i64 1) (by simp)
  have k4 := hF3.at_ (b := b1) (o := 4) (V := .slice D1.p.A D1.p.n D1.p.c) (by simp)
  have k5 := hF3.at_ (b := b1) (o := 5) (V := .slice D1.g.A D1.g.n D1.g.c) (by simp)
  have k6 := hF3.at_ (b := b1) (o := 6) (V := .slice D1.a.A D1.a.n D1.a.c) (by simp)
  have k7 := hF3.at_ (b := b1) (o := 7) (V := .slice D1.l.A D1.l.n D1.l.c) (by simp)
  clear hF3
  go_wp2_with fail
  rw [← Hw4.out, ← Hb2.out]
  clear k0 k1 k2 k3 k4 k5 k6 k7
  clear z3
  refine (eqDesk_same D2 D1 X0 w4 _ _ O2.out.rd (R1.out.below B24.out) (Nat.le_refl _) B24.out.size X0_ok).mono ?_
  rintro e w5 ⟨rfl, hb5⟩
  have O5 := Lib.hid (O2.out.below hb5)
  have B25 := Lib.hid (B24.out.trans (hb5.mono B24.out.size))
  have F5 := Lib.hid (F4.out.below hb5)
  have Z5 := Lib.hid (show b2 < w5.heap.size from by have := hb5.size; have := Z4.out; omega)
  clear hb5
  have k0 := F5.out.at_ (b := b2) (o := 0) (V := .slice D2.m.A D2.m.n D2.m.c) (by simp)
  have k1 := F5.out.at_ (b := b2) (o := 1) (V := .slice D2.s.A D2.s.n D2.s.c) (by simp)
  have k2 := F5.out.at_ (b := b2) (o := 2) (V := .slice D2.d.A D2.d.n D2.d.c) (by simp)
  have k3 := F5.out.at_ (b := b2) (o := 3) (V := .int .i64 1) (by simp)
  have k4 := F5.out.at_ (b := b2) (o := 4) (V := .slice D2.p.A D2.p.n D2.p.c) (by simp)
  have k5 := F5.out.at_ (b := b2) (o := 5) (V := .slice D2.g.A D2.g.n D2.g.c) (by simp)
  have k6 := F5.out.at_ (b := b2) (o := 6) (V := .slice D2.a.A D2.a.n D2.a.c) (by simp)
  have k7 := F5.out.at_ (b := b2) (o := 7) (V := .slice D2.l.A D2.l.n D2.l.c) (by simp)
  go_wp2_with fail
  clear k0 k1 k2 k3 k4 k5 k6 k7
  refine (markDesk_any D2 X0 w5 K2 1 O5.out X0_ok (by omega) (by omega)).mono ?_
  rintro e w6 ⟨rfl, ho6, hm6⟩
  rw [← HE.out]
  have O6 := Lib.hid ho6
  have B26 := Lib.hid (show Below w2.heap.size w2 w6 from B25.out.trans ((hm6.below (show K2 0 ≤ w5.heap.size from by have := Z5.out; have := HK7.out; have := HKlo.out; omega)).mono HK2.out))
  have F6 := Lib.hid (show Cells [(b2, 0, .slice D2.m.A D2.m.n D2.m.c), (b2, 1, .slice D2.s.A D2.s.n D2.s.c), (b2, 2, .slice D2.d.A D2.d.n D2.d.c), (b2, 3, .int .i64 1), (b2, 4, .slice D2.p.A D2.p.n D2.p.c), (b2, 5, .slice D2.g.A D2.g.n D2.g.c), (b2, 6, .slice D2.a.A D2.a.n D2.a.c), (b2, 7, .slice D2.l.A D2.l.n D2.l.c), (b1, 0, .slice D1.m.A D1.m.n D1.m.c), (b1, 1, .slice D1.s.A D1.s.n D1.s.c), (b1, 2, .slice D1.d.A D1.d.n D1.d.c), (b1, 3, .int .i64 1), (b1, 4, .slice D1.p.A D1.p.n D1.p.c), (b1, 5, .slice D1.g.A D1.g.n D1.g.c), (b1, 6, .slice D1.a.A D1.a.n D1.a.c), (b1, 7, .slice D1.l.A D1.l.n D1.l.c)] w6 from F5.out.mid hm6 (by
    have := HK7.out
    have := Z21.out
    intro x hx
    simp only [List.mem_cons, List.not_mem_nil, or_false] at hx
    rcases hx with rfl | rfl | rfl | rfl | rfl | rfl | rfl | rfl | rfl | rfl | rfl | rfl | rfl | rfl | rfl | rfl <;> simp <;> omega))
  clear ho6 hm6
  have k0 := F6.out.at_ (b := b2) (o := 0) (V := .slice D2.m.A D2.m.n D2.m.c) (by simp)
  have k1 := F6.out.at_ (b := b2) (o := 1) (V := .slice D2.s.A D2.s.n D2.s.c) (by simp)
  have k2 := F6.out.at_ (b := b2) (o := 2) (V := .slice D2.d.A D2.d.n D2.d.c) (by simp)
  have k3 := F6.out.at_ (b := b2) (o := 3) (V := .int .i64 1) (by simp)
  have k4 := F6.out.at_ (b := b2) (o := 4) (V := .slice D2.p.A D2.p.n D2.p.c) (by simp)
  have k5 := F6.out.at_ (b := b2) (o := 5) (V := .slice D2.g.A D2.g.n D2.g.c) (by simp)
  have k6 := F6.out.at_ (b := b2) (o := 6) (V := .slice D2.a.A D2.a.n D2.a.c) (by simp)
  have k7 := F6.out.at_ (b := b2) (o := 7) (V := .slice D2.l.A D2.l.n D2.l.c) (by simp)
  go_wp2_with fail
  clear k0 k1 k2 k3 k4 k5 k6 k7
  refine (heldDesk_any D2 X0 w6 _ 1 O6.out.rd (Nat.le_refl _) X0_ok (by omega) (by omega)).mono ?_
  rintro e w7 ⟨rfl, hb7⟩
  rw [← HE.out]
  have O7 := Lib.hid (O6.out.below hb7)
  have B27 := Lib.hid (B26.out.trans (hb7.mono B26.out.size))
  have F7 := Lib.hid (F6.out.below hb7)
  clear hb7
  go_wp2_with fail
  refine (iNewDesk_any _).mono ?_
  rintro e w8 ⟨D3, K3, rfl, hO3, hK3, hb8⟩
  simp only [deskV, X0]
  have hF8 := F7.out.below hb8
  have z8 : b1 < w8.heap.size := by have := hb8.size; have := B27.out.size; have := Z2.out; omega
  obtain ⟨b3, hb3e⟩ : ∃ b, b = w8.heap.size := ⟨_, rfl⟩
  obtain ⟨w9, hw9⟩ : ∃ W, W = w8.alloc (.cells #[.slice D3.m.A D3.m.n D3.m.c, .slice D3.s.A D3.s.n D3.s.c, .slice D3.d.A D3.d.n D3.d.c, .int .i64 1, .slice D3.p.A D3.p.n D3.p.c, .slice D3.g.A D3.g.n D3.g.c, .slice D3.a.A D3.a.n D3.a.c, .slice D3.l.A D3.l.n D3.l.c] 34) := ⟨_, rfl⟩
  have hx9 : Below w8.heap.size w8 w9 := by rw [hw9]; exact (Below.refl _ _).alloc (Nat.le_refl _) _
  have hx79 := hb8.trans (hx9.mono hb8.size)
  have F9 := Lib.hid (hF8.below hx9)
  have O9 := Lib.hid (hO3.below hx9)
  have Q9 := Lib.hid (O7.out.below hx79)
  have B29 := Lib.hid (B27.out.trans (hx79.mono B27.out.size))
  have Hw9 := Lib.hid hw9
  have Hb3 := Lib.hid hb3e
  clear hx9 hw9 hb3e hO3 hb8 hK3 hx79
  have k0 := hF8.at_ (b := b1) (o := 0) (V := .slice D1.m.A D1.m.n D1.m.c) (by simp)
  have k1 := hF8.at_ (b := b1) (o := 1) (V := .slice D1.s.A D1.s.n D1.s.c) (by simp)
  have k2 := hF8.at_ (b := b1) (o := 2) (V := .slice D1.d.A D1.d.n D1.d.c) (by simp)
  have k3 := hF8.at_ (b := b1) (o := 3) (V := .int .i64 1) (by simp)
  have k4 := hF8.at_ (b := b1) (o := 4) (V := .slice D1.p.A D1.p.n D1.p.c) (by simp)
  have k5 := hF8.at_ (b := b1) (o := 5) (V := .slice D1.g.A D1.g.n D1.g.c) (by simp)
  have k6 := hF8.at_ (b := b1) (o := 6) (V := .slice D1.a.A D1.a.n D1.a.c) (by simp)
  have k7 := hF8.at_ (b := b1) (o := 7) (V := .slice D1.l.A D1.l.n D1.l.c) (by simp)
  clear hF8
  go_wp2_with fail
  rw [← Hw9.out, ← Hb3.out]
  clear k0 k1 k2 k3 k4 k5 k6 k7
  clear z8
  refine (eqDesk_same D3 D1 X0 w9 _ _ O9.out.rd (R1.out.below B29.out) (Nat.le_refl _) B29.out.size X0_ok).mono ?_
  rintro e w10 ⟨rfl, hb10⟩
  have Q10 := Lib.hid (Q9.out.below hb10)
  have B210 := Lib.hid (B29.out.trans (hb10.mono B29.out.size))
  have F10 := Lib.hid (F9.out.below hb10)
  clear hb10
  have k0 := F10.out.at_ (b := b2) (o := 0) (V := .slice D2.m.A D2.m.n D2.m.c) (by simp)
  have k1 := F10.out.at_ (b := b2) (o := 1) (V := .slice D2.s.A D2.s.n D2.s.c) (by simp)
  have k2 := F10.out.at_ (b := b2) (o := 2) (V := .slice D2.d.A D2.d.n D2.d.c) (by simp)
  have k3 := F10.out.at_ (b := b2) (o := 3) (V := .int .i64 1) (by simp)
  have k4 := F10.out.at_ (b := b2) (o := 4) (V := .slice D2.p.A D2.p.n D2.p.c) (by simp)
  have k5 := F10.out.at_ (b := b2) (o := 5) (V := .slice D2.g.A D2.g.n D2.g.c) (by simp)
  have k6 := F10.out.at_ (b := b2) (o := 6) (V := .slice D2.a.A D2.a.n D2.a.c) (by simp)
  have k7 := F10.out.at_ (b := b2) (o := 7) (V := .slice D2.l.A D2.l.n D2.l.c) (by simp)
  go_wp2_with fail
  clear k0 k1 k2 k3 k4 k5 k6 k7
  refine (heldDesk_any D2 X0 w10 _ 1 Q10.out.rd (Nat.le_refl _) X0_ok (by omega) (by omega)).mono ?_
  rintro e w11 ⟨rfl, hb11⟩
  rw [← HE.out]
  have B211 := Lib.hid (B210.out.trans (hb11.mono B210.out.size))
  clear hb11
  go_wp2_with fail
  go_ret
  exact ⟨rfl, B2.out.trans (B211.out.mono B2.out.size)⟩
end Go.Proofs.Ytejlkobieohgfaa
