/- spec.l12Act. -/
import Derived.Test.YtdpkhgkoeoiemaaUnsP
namespace Go.Proofs.Ytdpkhgkoeoiemaa
open Go.RowKit
set_option linter.unusedVariables false

set_option maxRecDepth 100000 in
set_option maxHeartbeats 2000000 in
theorem act12_any (A1 A2 : Option Addr) (n1 c1 n2 c2 k x : Nat) (ds : List Int) (act : List (List Int)) (w : World) (h : RdMod w A1 n1 c1 ds A2 n2 c2 act) (ht : TabF ds act) (hn2 : n2 ≤ 2000000) (hx : x < 2 ^ n1) :
    Calls Try.prog 28 #[.agg #[.slice A1 n1 c1, .slice A2 n2 c2], .int .i64 (k : Nat), .int .i64 (x : Nat)] w (RetIb (spA (act.map toT) k x : Nat) w) := by
  obtain ⟨w0, b, hw0, hbe, hb0, hz0', hF⟩ := start1 w (.slice A1 n1 c1) (.slice A2 n2 c2) 29
  have hn : n1 ≤ 16 := by rw [← h.ds.len]; exact ht.len
  have hl : ds.length = n1 := h.ds.len
  have hx6 : x < 65536 := by
    have h2 : (2 : Nat) ^ n1 ≤ 2 ^ 16 := Nat.pow_le_pow_right (by decide) hn
    have e : (2 : Nat) ^ 16 = 65536 := by decide
    rw [e] at h2
    exact Nat.lt_of_lt_of_le hx h2
  have HA := Lib.hid (show spA (act.map toT) k x < 2 ^ n1 from by rw [← hl] at hx ⊢; exact ht.tri.spA_lt hx)
  have H := Lib.hid (h.below hb0)
  have HT := Lib.hid ht
  have Hw := Lib.hid hw0
  have Hbe := Lib.hid hbe
  have Hb0 := Lib.hid hb0
  have F0 := Lib.hid hF
  have HB0 := Lib.hid (show b < w0.heap.size from by rw [hz0']; omega)
  have k0 := F0.out.at_ (b := b) (o := 0) (V := .slice A1 n1 c1) (by simp)
  have k1 := F0.out.at_ (b := b) (o := 1) (V := .slice A2 n2 c2) (by simp)
  obtain ⟨y, hy⟩ : ∃ y, y = spA (act.map toT) k x := ⟨_, rfl⟩
  have HY := Lib.hid hy
  rw [← hy] at HA ⊢
  obtain ⟨R, hR⟩ : ∃ R, R = RetIb ((y : Nat) : Int) w := ⟨_, rfl⟩
  have HR := Lib.hid hR
  rw [← hR]
  clear h ht hw0 hbe hb0 hF hR hz0' hx hl hy
  have C1 := Lib.hid (vector12_any x n1 (w0.drewN 1) hx6 hn)
  go_enter Try.func28, Try.ntmps28
  go_wp2_with fail
  rw [← Hw.out, ← Hbe.out]
  go_wp2_with fail
  go_region_held3 (fun w' => w'.cell? ⟨b, 0, none⟩ = some (.slice A1 n1 c1) ∧ w'.cell? ⟨b, 1, none⟩ = some (.slice A2 n2 c2)) (first | exact ⟨k0, k1⟩ | exact ⟨ka0, ka1⟩ | exact ⟨kb0, kb1⟩ | exact ⟨kc0, kc1⟩)
    (first
      | (go_at_call 41
         refine C1.out.mono ?_
         rintro e w3 ⟨A7, c7, rfl, ho7, hb7⟩
         have E7 := Lib.hid (show Ext w0 w3 from Ext.trans (below_drewN (Ext.refl w0) 1) hb7)
         have ka0 := (F0.out.below E7.out).at_ (b := b) (o := 0) (V := .slice A1 n1 c1) (by simp)
         have ka1 := (F0.out.below E7.out).at_ (b := b) (o := 1) (V := .slice A2 n2 c2) (by simp)
         have H7 := Lib.hid ho7.rd
         clear ho7 hb7)
      | (go_at_call 40
         have C2 := act11_any A1 A2 A7 n1 c1 n2 c2 c7 k x ds act w3 (H.out.below E7.out) HT.out hn2 H7.out
         rw [← HY.out] at C2
         refine C2.mono ?_
         rintro e w4 ⟨A8, c8, rfl, ho8, hb8⟩
         have E8 := Lib.hid (Ext.trans E7.out hb8)
         have kb0 := (F0.out.below E8.out).at_ (b := b) (o := 0) (V := .slice A1 n1 c1) (by simp)
         have kb1 := (F0.out.below E8.out).at_ (b := b) (o := 1) (V := .slice A2 n2 c2) (by simp)
         have H8 := Lib.hid ho8.rd
         clear ho8 hb8 C2)
      | (go_at_call 39
         refine (mask12_any y n1 A8 c8 _ w4 H8.out HA.out hn).mono ?_
         rintro e w5 ⟨rfl, h5⟩
         rw [h5]
         clear h5))
  go_wp2_with fail
  rw [HR.out]
  exact ⟨rfl, Hb0.out.trans (E8.out.mono Hb0.out.size)⟩
end Go.Proofs.Ytdpkhgkoeoiemaa
