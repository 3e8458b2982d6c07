/- spec.l03Form of a word of two squares. -/
import Derived.Test.YtdpkhgkoeoiemaaLeftB
namespace Go.Proofs.Ytdpkhgkoeoiemaa
open Go.RowKit
set_option linter.unusedVariables false

/-- a slice that reads as the lists zs -/
def RetRL (zs : List (List Int)) (w : World) (e : Ending) (w' : World) : Prop := ∃ A c, e = .returned (.slice A zs.length c) ∧ RdL w' w'.heap.size A zs.length c zs ∧ Below w.heap.size w w'
/-- the form of the last letters of a word of two -/
def formS (a b : Nat) : Nat → List (List Int)
  | 0 => formF a b
  | 1 => [[(b : Int)]]
  | _ => [[]]

set_option maxHeartbeats 1000000 in
theorem form_any (a b : Nat) (A : Option Addr) (c : Nat) (w : World) (h : RdS w w.heap.size A 2 c [(a : Int), (b : Int)]) (ha : 1 ≤ a) (hab : a / 2 + 1 ≤ b) (hb : b ≤ 100) :
    Calls Try.prog 47 #[.slice A 2 c] w (RetRL (formF a b) w) := by
  have H := Lib.hid h
  have HB0 := Lib.hid (Ext.alloc (Ext.alloc (Ext.refl w) (.cells #[] 2)) (.cells #[.slice (some ⟨w.heap.size, 0, none⟩) 0 0] 22))
  have HQ := Lib.hid (rdL_one (w := w.alloc (.cells #[] 2)) (B := 0) (n := 0) (c := 0) (A := some ⟨w.heap.size, 0, none⟩) (x := []) rdS_nil (Nat.zero_le _))
  obtain ⟨R, hR⟩ : ∃ R, R = RetRL (formF a b) w := ⟨_, rfl⟩
  have HR := Lib.hid hR
  rw [← hR]
  clear hR h
  go_enter Try.func47, Try.ntmps47
  go_wp2_with fail
  obtain ⟨w0, hw0⟩ : ∃ W, W = (w.alloc (.cells #[] 2)).alloc (.cells #[.slice (some ⟨w.heap.size, 0, none⟩) 0 0] 22) := ⟨_, rfl⟩
  rw [← hw0] at HB0 HQ ⊢
  clear hw0
  go_loopw [3, 4] (fun o i wr => ∃ (j l c : Nat) (A : Option Addr) (zs : List (List Int)), j ≤ 2 ∧ i = .int .i64 ((j : Int) - 1) ∧ o = .slice A l c ∧ Hid (zs = formS a b j) ∧ Hid (l = zs.length) ∧ Hid (RdL wr wr.heap.size A l c zs) ∧ Hid (Below w.heap.size w wr)) (fun _ i _ => (intOf i + 1).toNat)
  case atStart => exact ⟨2, 1, 1, _, [[]], Nat.le_refl _, rfl, rfl, Lib.hid rfl, Lib.hid rfl, by simpa using HQ, HB0⟩
  case round =>
    clear HQ HB0
    obtain ⟨j, l, c', A', zs, hj, rfl, rfl, HZ, HL, HS, HX⟩ := hrel
    have hj3 : j = 0 ∨ j = 1 ∨ j = 2 := by omega
    rcases hj3 with rfl | rfl | rfl
    · have HE := Lib.hid (show zs = formF a b from HZ.out)
      go_wp2_with fail
      rw [HR.out]
      have h := HS.out
      rw [HL.out, HE.out] at h
      rw [HL.out, HE.out]
      exact ⟨_, _, rfl, h, HX.out⟩
    · have HE : zs = [[(b : Int)]] := HZ.out
      subst HE
      obtain rfl : l = 1 := HL.out
      obtain ⟨ad, y, rfl, _, hy, hcy⟩ := (H.out.below HX.out).at_ (k := 0) (by omega)
      obtain rfl : y = (a : Int) := by simpa using hy.out.symm
      have hcy0 : wr.cell? ad = some (.int .i64 (a : Int)) := by simpa [Addr.add] using hcy
      have C1 := Lib.hid (left2_any a b A' c' wr HS.out ha hab hb)
      obtain ⟨zs2, hz2⟩ : ∃ z, z = formF a b := ⟨_, rfl⟩
      rw [← hz2] at C1
      have HZ2 := Lib.hid hz2
      obtain ⟨l2, hl2⟩ : ∃ l, l = zs2.length := ⟨_, rfl⟩
      rw [← hl2] at C1
      have HL2 := Lib.hid hl2
      clear hy hcy hz2 hl2
      go_wp2_with fail
      refine C1.out.mono ?_
      rintro e w2 ⟨A2, c2, rfl, ho2, hb2⟩
      have X2 := Lib.hid (HX.out.trans (hb2.mono HX.out.size))
      have S2 := Lib.hid ho2.rd
      clear ho2 hb2
      go_wp2_with fail
      go_roundw
      case rel => exact ⟨0, l2, c2, A2, zs2, by omega, by go_num, rfl, HZ2, HL2, S2, X2⟩
      case measure => first | (simp [intOf]; done) | (simp [intOf]; omega)
    · have HE : zs = [[]] := HZ.out
      subst HE
      obtain rfl : l = 1 := HL.out
      obtain ⟨ad, y, rfl, _, hy, hcy⟩ := (H.out.below HX.out).at_ (k := 1) (by omega)
      obtain rfl : y = (b : Int) := by simpa using hy.out.symm
      simp [Addr.add] at hcy
      have C1 := Lib.hid (left1_any b A' c' [] wr HS.out (by simp) (.inr (.inl rfl)) (by omega))
      have HF := Lib.hid (show frontW (b : Int) [] = [(b : Int)] from if_neg (by omega))
      rw [HF.out] at C1
      clear hy
      go_wp2_with fail
      refine C1.out.mono ?_
      rintro e w2 ⟨A2, c2, rfl, ho2, hb2⟩
      have X2 := Lib.hid (HX.out.trans (hb2.mono HX.out.size))
      have S2 := Lib.hid ho2.rd
      clear ho2 hb2
      go_wp2_with fail
      go_roundw
      case rel => exact ⟨1, 1, c2, A2, [[(b : Int)]], by omega, by go_num, rfl, Lib.hid rfl, Lib.hid rfl, S2, X2⟩
      case measure => first | (simp [intOf]; done) | (simp [intOf]; omega)
end Go.Proofs.Ytdpkhgkoeoiemaa
