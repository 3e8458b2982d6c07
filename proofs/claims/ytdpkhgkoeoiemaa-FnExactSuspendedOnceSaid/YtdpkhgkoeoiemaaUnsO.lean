/- IsUnstable and UnstableFault on both sides. -/
import Derived.Test.YtdpkhgkoeoiemaaUnsP
import Derived.Test.YtdpkhgkoeoiemaaLawK
namespace Go.Proofs.Ytdpkhgkoeoiemaa
open Go.RowKit
set_option linter.unusedVariables false

theorem tabF_mod {ds : List Int} {act : List (List Int)} (h : modB ds act = true) : TabF ds act := by
  unfold modB at h
  exact tabF_of (Bool.and_eq_true_iff.1 h).1
/-- the answers of IsUnstable and of UnstableFault -/
noncomputable def unB (ds : List Int) (act : List (List Int)) : Bool := modB ds act && (ufL ds (act.map toT)).isEmpty
noncomputable def unK (ds : List Int) (act : List (List Int)) : Int := if modB ds act = true then 0 else 1
noncomputable def unL (ds : List Int) (act : List (List Int)) : List Int := if modB ds act = true then ufL ds (act.map toT) else []
noncomputable def unC (ds : List Int) (act : List (List Int)) : Int := if modB ds act = true then (if (ufL ds (act.map toT)).isEmpty = true then 4 else 0) else 1
theorem unB_no {ds : List Int} {act : List (List Int)} (h : modB ds act = false) : unB ds act = false := by unfold unB; rw [h]; rfl
theorem unB_yes {ds : List Int} {act : List (List Int)} {xs : List Int} {b : Bool} (h : modB ds act = true) (hx : ufL ds (act.map toT) = xs) (he : xs.isEmpty = b) : unB ds act = b := by unfold unB; rw [h, hx, he]; rfl
theorem unK_no {ds : List Int} {act : List (List Int)} (h : modB ds act = false) : unK ds act = 1 := by unfold unK; rw [h]; rfl
theorem unK_yes {ds : List Int} {act : List (List Int)} (h : modB ds act = true) : unK ds act = 0 := by unfold unK; rw [h]; rfl
theorem unL_no {ds : List Int} {act : List (List Int)} (h : modB ds act = false) : unL ds act = [] := by unfold unL; rw [h]; rfl
theorem unL_yes {ds : List Int} {act : List (List Int)} {xs : List Int} (h : modB ds act = true) (hx : ufL ds (act.map toT) = xs) : unL ds act = xs := by unfold unL; rw [h, hx]; rfl
theorem unC_no {ds : List Int} {act : List (List Int)} (h : modB ds act = false) : unC ds act = 1 := by unfold unC; rw [h]; rfl
theorem unC_nil {ds : List Int} {act : List (List Int)} {xs : List Int} (h : modB ds act = true) (hx : ufL ds (act.map toT) = xs) (he : xs.isEmpty = true) : unC ds act = 4 := by unfold unC; rw [h, hx, he]; rfl
theorem unC_some {ds : List Int} {act : List (List Int)} {xs : List Int} (h : modB ds act = true) (hx : ufL ds (act.map toT) = xs) (he : xs.isEmpty = false) : unC ds act = 0 := by unfold unC; rw [h, hx, he]; rfl

set_option maxRecDepth 100000 in
set_option maxHeartbeats 1000000 in
theorem sIsUnstable_any (A1 A2 : Option Addr) (n1 c1 n2 c2 : Nat) (ds : List Int) (act : List (List Int)) (w : World) (h : RdMod w A1 n1 c1 ds A2 n2 c2 act) (hn1 : n1 ≤ 2000000) (hn2 : n2 ≤ 2000000) (ht : totalL act ≤ 2000000) :
    Calls Try.prog 7 #[.agg #[.slice A1 n1 c1, .slice A2 n2 c2]] w (RetBIC (unB ds act) (unK ds act) w) := by
  obtain ⟨w0, b, hw0, hbe, hb0, hz0', hF⟩ := start1 w (.slice A1 n1 c1) (.slice A2 n2 c2) 29
  have H := Lib.hid (h.below hb0)
  have Hw := Lib.hid hw0
  have Hbe := Lib.hid hbe
  have Hb0 := Lib.hid hb0
  have k0 := hF.at_ (b := b) (o := 0) (V := .slice A1 n1 c1) (by simp)
  have k1 := hF.at_ (b := b) (o := 1) (V := .slice A2 n2 c2) (by simp)
  have F0 := Lib.hid hF
  have C1 := Lib.hid (l11Is_any A1 A2 n1 c1 n2 c2 ds act w0 H.out hn1 hn2 ht)
  obtain ⟨R, hR⟩ : ∃ R, R = RetBIC (unB ds act) (unK ds act) w := ⟨_, rfl⟩
  have HR := Lib.hid hR
  rw [← hR]
  clear h hw0 hbe hb0 hF hR ht
  have hnil := fun (a : Option Addr) (n c n' c' : Nat) (W : World) => nilS a n c n' c' W
  obtain ⟨t, htt⟩ : ∃ t, t = modB ds act := ⟨_, rfl⟩
  rw [← htt] at C1
  cases t
  · have HV := Lib.hid htt.symm
    clear htt
    go_enter Try.func7, Try.ntmps7
    go_wp2_with fail
    rw [← Hw.out, ← Hbe.out]
    go_wp2_with fail
    refine C1.out.mono ?_
    rintro e w1 ⟨rfl, hb1⟩
    have X1 := Lib.hid (Hb0.out.trans (hb1.mono Hb0.out.size))
    clear hb1
    go_wp2_with fail
    rw [HR.out]
    exact RetBIC.mk (unB_no HV.out).symm (unK_no HV.out).symm X1.out
  · have HV := Lib.hid htt.symm
    have HTF := Lib.hid (tabF_mod htt.symm)
    have C2 := fun (W : World) (hB : Below w0.heap.size w0 W) => Lib.hid (fault17_any A1 A2 n1 c1 n2 c2 ds act W (H.out.below hB) HTF.out hn2)
    obtain ⟨xs, hx⟩ : ∃ xs, xs = ufL ds (act.map toT) := ⟨_, rfl⟩
    rw [← hx] at C2
    have HU := Lib.hid hx.symm
    clear htt hx
    go_enter Try.func7, Try.ntmps7
    go_wp2_with fail
    rw [← Hw.out, ← Hbe.out]
    go_wp2_with fail
    refine C1.out.mono ?_
    rintro e w1 ⟨rfl, hb1⟩
    have X1 := Lib.hid hb1
    have k2 := (F0.out.below X1.out).at_ (b := b) (o := 0) (V := .slice A1 n1 c1) (by simp)
    have k3 := (F0.out.below X1.out).at_ (b := b) (o := 1) (V := .slice A2 n2 c2) (by simp)
    clear hb1
    go_wp2_with fail
    refine (C2 w1 X1.out).out.mono ?_
    rintro e w2 ⟨A, c, rfl, ho, hA, hb2⟩
    have X2 := Lib.hid (Hb0.out.trans ((X1.out.trans (hb2.mono X1.out.size)).mono Hb0.out.size))
    have HO := Lib.hid (ho.mono (Nat.le_trans Hb0.out.size X1.out.size))
    clear hb2 ho
    by_cases hxe : xs = []
    · subst hxe
      obtain rfl : A = none := by cases A <;> simp at hA ⊢
      go_wp2_with fail
      rw [HR.out]
      exact RetBIC.mk (unB_yes HV.out HU.out rfl).symm (unK_yes HV.out).symm X2.out
    · obtain ⟨l, hl⟩ : ∃ l, l = xs.length := ⟨_, rfl⟩
      have hl0 : 0 < l := by rw [hl]; exact List.length_pos_iff.2 hxe
      obtain ⟨g, rfl⟩ : ∃ g, A = some g := by
        cases A with
        | none => exact absurd (by simpa using hA.symm) hxe
        | some g => exact ⟨g, rfl⟩
      have hle : xs.isEmpty = false := by cases xs <;> simp at hxe ⊢
      have HE := Lib.hid hle
      have HL := Lib.hid hl
      rw [← hl] at HO ⊢
      have hk1 : ((l : Int) == 0) = false := by simp; omega
      have hk2 : ¬ ((l : Int) = 0) := by omega
      have hk3 : (0 : Int) < (l : Int) := by omega
      clear hA hle hxe hl
      go_wp2_with fail
      rw [HR.out]
      exact RetBIC.mk (unB_yes HV.out HU.out HE.out).symm (unK_yes HV.out).symm X2.out
set_option maxRecDepth 100000 in
set_option maxHeartbeats 1000000 in
theorem sUnstableFault_any (A1 A2 : Option Addr) (n1 c1 n2 c2 : Nat) (ds : List Int) (act : List (List Int)) (w : World) (h : RdMod w A1 n1 c1 ds A2 n2 c2 act) (hn1 : n1 ≤ 2000000) (hn2 : n2 ≤ 2000000) (ht : totalL act ≤ 2000000) :
    Calls Try.prog 13 #[.agg #[.slice A1 n1 c1, .slice A2 n2 c2]] w (RetSC (unL ds act).length (unL ds act) (unC ds act) w) := by
  obtain ⟨w0, b, hw0, hbe, hb0, hz0', hF⟩ := start1 w (.slice A1 n1 c1) (.slice A2 n2 c2) 29
  have H := Lib.hid (h.below hb0)
  have Hw := Lib.hid hw0
  have Hbe := Lib.hid hbe
  have Hb0 := Lib.hid hb0
  have k0 := hF.at_ (b := b) (o := 0) (V := .slice A1 n1 c1) (by simp)
  have k1 := hF.at_ (b := b) (o := 1) (V := .slice A2 n2 c2) (by simp)
  have F0 := Lib.hid hF
  have C1 := Lib.hid (l11Is_any A1 A2 n1 c1 n2 c2 ds act w0 H.out hn1 hn2 ht)
  obtain ⟨R, hR⟩ : ∃ R, R = RetSC (unL ds act).length (unL ds act) (unC ds act) w := ⟨_, rfl⟩
  have HR := Lib.hid hR
  rw [← hR]
  clear h hw0 hbe hb0 hF hR ht
  have hnil := fun (a : Option Addr) (n c n' c' : Nat) (W : World) => nilS a n c n' c' W
  obtain ⟨t, htt⟩ : ∃ t, t = modB ds act := ⟨_, rfl⟩
  rw [← htt] at C1
  cases t
  · have HV := Lib.hid htt.symm
    clear htt
    go_enter Try.func13, Try.ntmps13
    go_wp2_with fail
    rw [← Hw.out, ← Hbe.out]
    go_wp2_with fail
    refine C1.out.mono ?_
    rintro e w1 ⟨rfl, hb1⟩
    have X1 := Lib.hid (Hb0.out.trans (hb1.mono Hb0.out.size))
    clear hb1
    go_wp2_with fail
    rw [HR.out]
    exact RetSC.mk (unC_no HV.out).symm (by rw [unL_no HV.out]; rfl) OwnS.nil (unL_no HV.out).symm X1.out
  · have HV := Lib.hid htt.symm
    have HTF := Lib.hid (tabF_mod htt.symm)
    have C2 := fun (W : World) (hB : Below w0.heap.size w0 W) => Lib.hid (fault17_any A1 A2 n1 c1 n2 c2 ds act W (H.out.below hB) HTF.out hn2)
    obtain ⟨xs, hx⟩ : ∃ xs, xs = ufL ds (act.map toT) := ⟨_, rfl⟩
    rw [← hx] at C2
    have HU := Lib.hid hx.symm
    clear htt hx
    go_enter Try.func13, Try.ntmps13
    go_wp2_with fail
    rw [← Hw.out, ← Hbe.out]
    go_wp2_with fail
    refine C1.out.mono ?_
    rintro e w1 ⟨rfl, hb1⟩
    have X1 := Lib.hid hb1
    have k2 := (F0.out.below X1.out).at_ (b := b) (o := 0) (V := .slice A1 n1 c1) (by simp)
    have k3 := (F0.out.below X1.out).at_ (b := b) (o := 1) (V := .slice A2 n2 c2) (by simp)
    clear hb1
    go_wp2_with fail
    refine (C2 w1 X1.out).out.mono ?_
    rintro e w2 ⟨A, c, rfl, ho, hA, hb2⟩
    have X2 := Lib.hid (Hb0.out.trans ((X1.out.trans (hb2.mono X1.out.size)).mono Hb0.out.size))
    have HO := Lib.hid (ho.mono (Nat.le_trans Hb0.out.size X1.out.size))
    clear hb2 ho
    by_cases hxe : xs = []
    · subst hxe
      obtain rfl : A = none := by cases A <;> simp at hA ⊢
      go_wp2_with fail
      rw [HR.out]
      exact RetSC.mk (unC_nil HV.out HU.out rfl).symm (by rw [unL_yes HV.out HU.out]; rfl) OwnS.nil (unL_yes HV.out HU.out).symm X2.out
    · obtain ⟨l, hl⟩ : ∃ l, l = xs.length := ⟨_, rfl⟩
      have hl0 : 0 < l := by rw [hl]; exact List.length_pos_iff.2 hxe
      obtain ⟨g, rfl⟩ : ∃ g, A = some g := by
        cases A with
        | none => exact absurd (by simpa using hA.symm) hxe
        | some g => exact ⟨g, rfl⟩
      have hle : xs.isEmpty = false := by cases xs <;> simp at hxe ⊢
      have HE := Lib.hid hle
      have HL := Lib.hid hl
      rw [← hl] at HO ⊢
      have hk1 : ((l : Int) == 0) = false := by simp; omega
      have hk2 : ¬ ((l : Int) = 0) := by omega
      have hk3 : (0 : Int) < (l : Int) := by omega
      clear hA hle hxe hl
      go_wp2_with fail
      rw [HR.out]
      exact RetSC.mk (unC_some HV.out HU.out HE.out).symm (by rw [unL_yes HV.out HU.out, HL.out]) HO.out (unL_yes HV.out HU.out).symm X2.out
set_option maxRecDepth 100000 in
set_option maxHeartbeats 1000000 in
theorem iIsUnstable_any (A1 A2 : Option Addr) (n1 c1 n2 c2 : Nat) (ds : List Int) (act : List (List Int)) (w : World) (h : RdMod w A1 n1 c1 ds A2 n2 c2 act) (hn1 : n1 ≤ 2000000) (hn2 : n2 ≤ 2000000) (ht : totalL act ≤ 2000000) :
    Calls Try.prog 9 #[.agg #[.slice A1 n1 c1, .slice A2 n2 c2]] w (RetBIC (unB ds act) (unK ds act) w) := by
  obtain ⟨w0, b, hw0, hbe, hb0, hz0', hF⟩ := start1 w (.slice A1 n1 c1) (.slice A2 n2 c2) 29
  have H := Lib.hid (h.below hb0)
  have Hw := Lib.hid hw0
  have Hbe := Lib.hid hbe
  have Hb0 := Lib.hid hb0
  have k0 := hF.at_ (b := b) (o := 0) (V := .slice A1 n1 c1) (by simp)
  have k1 := hF.at_ (b := b) (o := 1) (V := .slice A2 n2 c2) (by simp)
  have F0 := Lib.hid hF
  have C1 := Lib.hid (isModule_any A1 A2 n1 c1 n2 c2 ds act w0 H.out hn1 hn2 ht)
  obtain ⟨R, hR⟩ : ∃ R, R = RetBIC (unB ds act) (unK ds act) w := ⟨_, rfl⟩
  have HR := Lib.hid hR
  rw [← hR]
  clear h hw0 hbe hb0 hF hR ht
  have hnil := fun (a : Option Addr) (n c n' c' : Nat) (W : World) => nilS a n c n' c' W
  obtain ⟨t, htt⟩ : ∃ t, t = modB ds act := ⟨_, rfl⟩
  rw [← htt] at C1
  cases t
  · have HV := Lib.hid htt.symm
    clear htt
    go_enter Try.func9, Try.ntmps9
    go_wp2_with fail
    rw [← Hw.out, ← Hbe.out]
    go_wp2_with fail
    refine C1.out.mono ?_
    rintro e w1 ⟨rfl, hb1⟩
    have X1 := Lib.hid (Hb0.out.trans (hb1.mono Hb0.out.size))
    clear hb1
    go_wp2_with fail
    rw [HR.out]
    exact RetBIC.mk (unB_no HV.out).symm (unK_no HV.out).symm X1.out
  · have HV := Lib.hid htt.symm
    have HTF := Lib.hid (tabF_mod htt.symm)
    have C2 := fun (W : World) (hB : Below w0.heap.size w0 W) => Lib.hid (unsFault_any A1 A2 n1 c1 n2 c2 ds act W (H.out.below hB) HTF.out hn2)
    obtain ⟨xs, hx⟩ : ∃ xs, xs = ufL ds (act.map toT) := ⟨_, rfl⟩
    rw [← hx] at C2
    have HU := Lib.hid hx.symm
    clear htt hx
    go_enter Try.func9, Try.ntmps9
    go_wp2_with fail
    rw [← Hw.out, ← Hbe.out]
    go_wp2_with fail
    refine C1.out.mono ?_
    rintro e w1 ⟨rfl, hb1⟩
    have X1 := Lib.hid hb1
    have k2 := (F0.out.below X1.out).at_ (b := b) (o := 0) (V := .slice A1 n1 c1) (by simp)
    have k3 := (F0.out.below X1.out).at_ (b := b) (o := 1) (V := .slice A2 n2 c2) (by simp)
    clear hb1
    go_wp2_with fail
    refine (C2 w1 X1.out).out.mono ?_
    rintro e w2 ⟨A, c, rfl, ho, hA, hb2⟩
    have X2 := Lib.hid (Hb0.out.trans ((X1.out.trans (hb2.mono X1.out.size)).mono Hb0.out.size))
    have HO := Lib.hid (ho.mono (Nat.le_trans Hb0.out.size X1.out.size))
    clear hb2 ho
    by_cases hxe : xs = []
    · subst hxe
      obtain rfl : A = none := by cases A <;> simp at hA ⊢
      go_wp2_with fail
      rw [HR.out]
      exact RetBIC.mk (unB_yes HV.out HU.out rfl).symm (unK_yes HV.out).symm X2.out
    · obtain ⟨l, hl⟩ : ∃ l, l = xs.length := ⟨_, rfl⟩
      have hl0 : 0 < l := by rw [hl]; exact List.length_pos_iff.2 hxe
      obtain ⟨g, rfl⟩ : ∃ g, A = some g := by
        cases A with
        | none => exact absurd (by simpa using hA.symm) hxe
        | some g => exact ⟨g, rfl⟩
      have hle : xs.isEmpty = false := by cases xs <;> simp at hxe ⊢
      have HE := Lib.hid hle
      have HL := Lib.hid hl
      rw [← hl] at HO ⊢
      have hk1 : ((l : Int) == 0) = false := by simp; omega
      have hk2 : ¬ ((l : Int) = 0) := by omega
      have hk3 : (0 : Int) < (l : Int) := by omega
      clear hA hle hxe hl
      go_wp2_with fail
      rw [HR.out]
      exact RetBIC.mk (unB_yes HV.out HU.out HE.out).symm (unK_yes HV.out).symm X2.out
set_option maxRecDepth 100000 in
set_option maxHeartbeats 1000000 in
theorem iUnstableFault_any (A1 A2 : Option Addr) (n1 c1 n2 c2 : Nat) (ds : List Int) (act : List (List Int)) (w : World) (h : RdMod w A1 n1 c1 ds A2 n2 c2 act) (hn1 : n1 ≤ 2000000) (hn2 : n2 ≤ 2000000) (ht : totalL act ≤ 2000000) :
    Calls Try.prog 14 #[.agg #[.slice A1 n1 c1, .slice A2 n2 c2]] w (RetSC (unL ds act).length (unL ds act) (unC ds act) w) := by
  obtain ⟨w0, b, hw0, hbe, hb0, hz0', hF⟩ := start1 w (.slice A1 n1 c1) (.slice A2 n2 c2) 29
  have H := Lib.hid (h.below hb0)
  have Hw := Lib.hid hw0
  have Hbe := Lib.hid hbe
  have Hb0 := Lib.hid hb0
  have k0 := hF.at_ (b := b) (o := 0) (V := .slice A1 n1 c1) (by simp)
  have k1 := hF.at_ (b := b) (o := 1) (V := .slice A2 n2 c2) (by simp)
  have F0 := Lib.hid hF
  have C1 := Lib.hid (isModule_any A1 A2 n1 c1 n2 c2 ds act w0 H.out hn1 hn2 ht)
  obtain ⟨R, hR⟩ : ∃ R, R = RetSC (unL ds act).length (unL ds act) (unC ds act) w := ⟨_, rfl⟩
  have HR := Lib.hid hR
  rw [← hR]
  clear h hw0 hbe hb0 hF hR ht
  have hnil := fun (a : Option Addr) (n c n' c' : Nat) (W : World) => nilS a n c n' c' W
  obtain ⟨t, htt⟩ : ∃ t, t = modB ds act := ⟨_, rfl⟩
  rw [← htt] at C1
  cases t
  · have HV := Lib.hid htt.symm
    clear htt
    go_enter Try.func14, Try.ntmps14
    go_wp2_with fail
    rw [← Hw.out, ← Hbe.out]
    go_wp2_with fail
    refine C1.out.mono ?_
    rintro e w1 ⟨rfl, hb1⟩
    have X1 := Lib.hid (Hb0.out.trans (hb1.mono Hb0.out.size))
    clear hb1
    go_wp2_with fail
    rw [HR.out]
    exact RetSC.mk (unC_no HV.out).symm (by rw [unL_no HV.out]; rfl) OwnS.nil (unL_no HV.out).symm X1.out
  · have HV := Lib.hid htt.symm
    have HTF := Lib.hid (tabF_mod htt.symm)
    have C2 := fun (W : World) (hB : Below w0.heap.size w0 W) => Lib.hid (unsFault_any A1 A2 n1 c1 n2 c2 ds act W (H.out.below hB) HTF.out hn2)
    obtain ⟨xs, hx⟩ : ∃ xs, xs = ufL ds (act.map toT) := ⟨_, rfl⟩
    rw [← hx] at C2
    have HU := Lib.hid hx.symm
    clear htt hx
    go_enter Try.func14, Try.ntmps14
    go_wp2_with fail
    rw [← Hw.out, ← Hbe.out]
    go_wp2_with fail
    refine C1.out.mono ?_
    rintro e w1 ⟨rfl, hb1⟩
    have X1 := Lib.hid hb1
    have k2 := (F0.out.below X1.out).at_ (b := b) (o := 0) (V := .slice A1 n1 c1) (by simp)
    have k3 := (F0.out.below X1.out).at_ (b := b) (o := 1) (V := .slice A2 n2 c2) (by simp)
    clear hb1
    go_wp2_with fail
    refine (C2 w1 X1.out).out.mono ?_
    rintro e w2 ⟨A, c, rfl, ho, hA, hb2⟩
    have X2 := Lib.hid (Hb0.out.trans ((X1.out.trans (hb2.mono X1.out.size)).mono Hb0.out.size))
    have HO := Lib.hid (ho.mono (Nat.le_trans Hb0.out.size X1.out.size))
    clear hb2 ho
    by_cases hxe : xs = []
    · subst hxe
      obtain rfl : A = none := by cases A <;> simp at hA ⊢
      go_wp2_with fail
      rw [HR.out]
      exact RetSC.mk (unC_nil HV.out HU.out rfl).symm (by rw [unL_yes HV.out HU.out]; rfl) OwnS.nil (unL_yes HV.out HU.out).symm X2.out
    · obtain ⟨l, hl⟩ : ∃ l, l = xs.length := ⟨_, rfl⟩
      have hl0 : 0 < l := by rw [hl]; exact List.length_pos_iff.2 hxe
      obtain ⟨g, rfl⟩ : ∃ g, A = some g := by
        cases A with
        | none => exact absurd (by simpa using hA.symm) hxe
        | some g => exact ⟨g, rfl⟩
      have hle : xs.isEmpty = false := by cases xs <;> simp at hxe ⊢
      have HE := Lib.hid hle
      have HL := Lib.hid hl
      rw [← hl] at HO ⊢
      have hk1 : ((l : Int) == 0) = false := by simp; omega
      have hk2 : ¬ ((l : Int) = 0) := by omega
      have hk3 : (0 : Int) < (l : Int) := by omega
      clear hA hle hxe hl
      go_wp2_with fail
      rw [HR.out]
      exact RetSC.mk (unC_some HV.out HU.out HE.out).symm (by rw [unL_yes HV.out HU.out, HL.out]) HO.out (unL_yes HV.out HU.out).symm X2.out
end Go.Proofs.Ytdpkhgkoeoiemaa
