/- The walk of impl.IsModule. -/
import Derived.Test.YtdpkhgkoeoiemaaTabX
import Derived.Lib.SliceRun
namespace Go.Proofs.Ytdpkhgkoeoiemaa
open Go.RowKit
set_option linter.unusedVariables false

theorem nilS (a : Option Addr) (n c n' c' : Nat) (W : World) : (binOp .eql 22 (.slice a n c) (.slice none n' c')).run Try.prog W = .ok (.bool a.isNone) W := Lib.run_eql_slice_nil W _ _ a n c n' c' Try.underlying22

set_option maxHeartbeats 1000000 in
theorem isModule_any (A1 A2 : Option Addr) (n1 c1 n2 c2 : Nat) (ds : List Int) (act : List (List Int)) (w : World) (h : RdMod w A1 n1 c1 ds A2 n2 c2 act) (hn1 : n1 ≤ 2000000) (hn2 : n2 ≤ 2000000) (ht : totalL act ≤ 2000000) :
    Calls Try.prog 25 #[.agg #[.slice A1 n1 c1, .slice A2 n2 c2]] w (RetBb (modB ds act) w) := by
  obtain ⟨w0, b, hw0, hbe, hb0, hz0', hF⟩ := start1 w (.slice A1 n1 c1) (.slice A2 n2 c2) 29
  have HL1 := Lib.hid h.ds.len
  have H := Lib.hid (h.below hb0)
  have Hw := Lib.hid hw0
  have Hbe := Lib.hid hbe
  have Hb0 := Lib.hid hb0
  have k0 := hF.at_ (b := b) (o := 0) (V := .slice A1 n1 c1) (by simp)
  have k1 := hF.at_ (b := b) (o := 1) (V := .slice A2 n2 c2) (by simp)
  have F0 := Lib.hid hF
  have C1 := Lib.hid (isTable_any A1 A2 n1 c1 n2 c2 ds act w0 H.out hn1 hn2 ht)
  obtain ⟨R, hR⟩ : ∃ R, R = RetBb (modB ds act) w := ⟨_, rfl⟩
  have HR := Lib.hid hR
  rw [← hR]
  clear h hw0 hbe hb0 hF hR ht
  obtain ⟨t, htt⟩ : ∃ t, t = tabB ds act := ⟨_, rfl⟩
  rw [← htt] at C1
  cases t
  · have HV := Lib.hid (show modB ds act = false from by unfold modB; rw [← htt]; rfl)
    clear htt
    have hnil := fun (a : Option Addr) (n c n' c' : Nat) (W : World) => nilS a n c n' c' W
    go_enter Try.func25, Try.ntmps25
    go_wp2_with fail
    rw [← Hw.out, ← Hbe.out]
    go_wp2_with fail
    refine C1.out.mono ?_
    rintro e w1 ⟨rfl, hb1⟩
    have X1 := Lib.hid (Hb0.out.trans (hb1.mono Hb0.out.size))
    clear hb1
    go_wp2_with fail
    rw [HR.out]
    exact RetBb.mk HV.out.symm X1.out
  · have HV := Lib.hid (show modB ds act = noFB (act.map toT) n1 20 from by unfold modB noFB; rw [← htt, HL1.out]; rfl)
    have HTF := Lib.hid (tabF_of htt.symm)
    have C2 := fun (W : World) (hB : Below w0.heap.size w0 W) => Lib.hid (tableOf_any A1 A2 n1 c1 n2 c2 ds act W (H.out.below hB) HTF.out hn2)
    obtain ⟨v, hv⟩ : ∃ v, v = noFB (act.map toT) n1 20 := ⟨_, rfl⟩
    have C3 := fun (W : World) (t : Nat) (hT : TabR W t n1 (.slice A1 n1 c1) (rowF (act.map toT))) => Lib.hid (fault_any t n1 c1 A1 ds (act.map toT) W hT HTF.out.tri HL1.out)
    rw [← hv] at HV C3
    clear htt hv
    have hnil := fun (a : Option Addr) (n c n' c' : Nat) (W : World) => nilS a n c n' c' W
    go_enter Try.func25, Try.ntmps25
    go_wp2_with fail
    rw [← Hw.out, ← Hbe.out]
    go_wp2_with fail
    refine C1.out.mono ?_
    rintro e w1 ⟨rfl, hb1⟩
    have X1 := Lib.hid hb1
    have k2 := (F0.out.below X1.out).at_ (b := b) (o := 0) (V := .slice A1 n1 c1) (by simp)
    have k3 := (F0.out.below X1.out).at_ (b := b) (o := 1) (V := .slice A2 n2 c2) (by simp)
    clear hb1
    go_wp2_with fail
    refine (C2 w1 X1.out).out.mono ?_
    rintro e w2 ⟨t, rfl, hT, hb2⟩
    have X2 := Lib.hid (X1.out.trans (hb2.mono X1.out.size))
    have C4 := C3 w2 t hT
    clear hb2 hT
    go_wp2_with fail
    refine C4.out.mono ?_
    rintro e w3 ⟨hb3, h3⟩
    have X3 := Lib.hid (Hb0.out.trans ((X2.out.trans (hb3.mono X2.out.size)).mono Hb0.out.size))
    clear hb3
    rcases h3 with ⟨rfl, rfl⟩ | ⟨rfl, g, k, c, hk, rfl⟩
    · go_wp2_with fail
      rw [HR.out]
      exact RetBb.mk HV.out.symm X3.out
    · go_wp2_with fail
      rw [HR.out]
      exact RetBb.mk HV.out.symm X3.out
end Go.Proofs.Ytdpkhgkoeoiemaa
