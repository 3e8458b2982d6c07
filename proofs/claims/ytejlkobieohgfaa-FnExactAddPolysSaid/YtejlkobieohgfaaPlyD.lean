/- Degrees of polynomials; DegreeOfPoly on both sides. -/
import Derived.Test.YtejlkobieohgfaaPlyS
import Derived.Test.YtejlkobieohgfaaLawK
namespace Go.Proofs.Ytejlkobieohgfaa
open Go.RowKit
set_option linter.unusedVariables false

/-- the degree of terms, and 0 of none -/
def degL (xss : List (List Int)) : Int := psT 0 (xss.headD [])
theorem headD_of {xss : List (List Int)} {x : List Int} (h : xss[0]? = some x) : xss.headD [] = x := by
  cases xss with
  | nil => simp at h
  | cons y ys => simpa using h
theorem degL_nil {xss : List (List Int)} (h : xss.length = 0) : degL xss = 0 := by
  cases xss with
  | nil => rfl
  | cons y ys => simp at h

theorem isZeroP_any (v : Int) (A : Option Addr) (n c : Nat) (w : World) (hn : n ≤ 2000000) : Calls Try.prog 81 #[.agg #[.int .i64 v, .slice A n c]] w (RetBb (decide (n = 0)) w) := by
  have hb0 : Below w.heap.size w (w.alloc (.cells #[.int .i64 v, .slice A n c] 28)) := (Below.refl _ _).alloc (Nat.le_refl _) _
  have Hb0 := Lib.hid hb0; clear hb0
  rcases Nat.eq_zero_or_pos n with rfl | h
  · skip
    go_enter Try.func81, Try.ntmps81
    go_wp2_with fail
    go_ret
    exact RetBb.mk (b' := true) rfl Hb0.out
  · have h1 : ((n : Int) == 0) = false := by simp; omega
    go_enter Try.func81, Try.ntmps81
    go_wp2_with fail
    go_ret
    exact RetBb.mk (by simp; omega) Hb0.out

theorem isZeroP_yes (v : Int) (A : Option Addr) (c : Nat) (w : World) : Calls Try.prog 81 #[.agg #[.int .i64 v, .slice A 0 c]] w (RetBb true w) := isZeroP_any v A 0 c w (by omega)
theorem isZeroP_no (v : Int) (A : Option Addr) (n c : Nat) (w : World) (h : 0 < n) (hn : n ≤ 2000000) : Calls Try.prog 81 #[.agg #[.int .i64 v, .slice A n c]] w (RetBb false w) := by
  have := isZeroP_any v A n c w hn
  rwa [decide_eq_false (show ¬ n = 0 by omega)] at this

theorem degreeP_any (v : Int) (A : Option Addr) (n c B : Nat) (xss : List (List Int)) (w : World) (h : RdL w B A n c xss) (hB : B ≤ w.heap.size) (hn : n ≤ 2000000) (ht : totalL xss ≤ 2000000) :
    Calls Try.prog 82 #[.agg #[.int .i64 v, .slice A n c]] w (RetIb (degL xss) w) := by
  have HL := Lib.hid h.len
  have hb0 : Below w.heap.size w (w.alloc (.cells #[.int .i64 v, .slice A n c] 28)) := (Below.refl _ _).alloc (Nat.le_refl _) _
  rcases Nat.eq_zero_or_pos n with rfl | hpos
  · have Hb0 := Lib.hid hb0; clear hb0
    have HD := Lib.hid (degL_nil HL.out)
    clear h
    go_enter Try.func82, Try.ntmps82
    go_wp2_with fail
    go_ret
    exact RetIb.mk (y := 0) HD.out.symm Hb0.out
  · obtain ⟨ad, A3, n3, c3, x0, rfl, hbk, hx0, hc0, hr0⟩ := (h.below (hb0.mono hB)).at_ hpos
    have hn3 : n3 ≤ 2000000 := by rw [← hr0.len]; exact Nat.le_trans (len_le_of_total (List.mem_of_getElem? hx0.out)) ht
    have hc00 : (w.alloc (.cells #[.int .i64 v, .slice (some ad) n c] 28)).cell? ad = some (.slice A3 n3 c3) := by simpa [Addr.add] using hc0
    have HR := Lib.hid hr0
    have HD : Hid (psT 0 x0 = degL xss) := Lib.hid (by rw [degL, headD_of hx0.out])
    have hne : ((n : Int) == 0) = false := by simp; omega
    have hpos' : (0 : Int) < (n : Int) := by omega
    have Hb0 := Lib.hid hb0
    clear hb0 h hr0 hx0 hc0 ht
    go_enter Try.func82, Try.ntmps82
    go_wp2_with fail
    refine (sum_any A3 n3 c3 _ x0 _ HR.out (by omega)).mono ?_
    rintro e w2 ⟨rfl, rfl⟩
    rw [HD.out]
    go_wp2_with fail
    go_ret
    exact RetIb.mk rfl Hb0.out

theorem l08Degree_any (A : Option Addr) (n c B : Nat) (xss : List (List Int)) (w : World) (h : RdL w B A n c xss) (hn : n ≤ 2000000) (ht : totalL xss ≤ 2000000) :
    Calls Try.prog 78 #[.slice A n c] w (RetI (degL xss) w) := by
  have HL := Lib.hid h.len
  rcases Nat.eq_zero_or_pos n with rfl | hpos
  · have HD := Lib.hid (degL_nil HL.out)
    clear h
    go_enter Try.func78, Try.ntmps78
    go_wp2_with fail
    go_ret
    exact RetI.mk (y := 0) HD.out.symm
  · obtain ⟨ad, A3, n3, c3, x0, rfl, hbk, hx0, hc0, hr0⟩ := h.at_ hpos
    have hn3 : n3 ≤ 2000000 := by rw [← hr0.len]; exact Nat.le_trans (len_le_of_total (List.mem_of_getElem? hx0.out)) ht
    have hc00 : w.cell? ad = some (.slice A3 n3 c3) := by simpa [Addr.add] using hc0
    have HR := Lib.hid hr0
    have HD : Hid (psT 0 x0 = degL xss) := Lib.hid (by rw [degL, headD_of hx0.out])
    have hne : ((n : Int) == 0) = false := by simp; omega
    have hpos' : (0 : Int) < (n : Int) := by omega
    clear h hr0 hx0 hc0 ht
    go_enter Try.func78, Try.ntmps78
    go_wp2_with fail
    refine (deg_any A3 n3 c3 _ x0 _ HR.out (by omega)).mono ?_
    rintro e w2 ⟨rfl, rfl⟩
    rw [HD.out]
    go_wp2_with fail
    go_ret
    exact RetI.mk rfl

def dopO (v : Int) (xss : List (List Int)) : Int × Int := if polB v xss then (if xss.isEmpty then (0, 5) else (degL xss, 0)) else (0, 1)
theorem dopO_bad {v : Int} {xss : List (List Int)} (h : polB v xss = false) : dopO v xss = (0, 1) := by simp [dopO, h]
theorem dopO_nil {v : Int} {xss : List (List Int)} (h : polB v xss = true) (h2 : xss.length = 0) : dopO v xss = (0, 5) := by
  have : xss = [] := List.eq_nil_of_length_eq_zero h2
  subst this
  unfold dopO
  rw [if_pos h]; rfl
theorem dopO_ok {v : Int} {xss : List (List Int)} (h : polB v xss = true) (h2 : 0 < xss.length) : dopO v xss = (degL xss, 0) := by
  have : xss.isEmpty = false := by cases xss with | nil => simp at h2 | cons x xs => rfl
  simp only [dopO, h, this]; rfl
theorem polB_len {v : Int} {xss : List (List Int)} (h : polB v xss = true) : xss.length ≤ 2000 := by
  simp only [polB, Bool.and_eq_true, decide_eq_true_eq] at h
  exact h.1.1.1.2

theorem rdL_here {w w1 : World} {A : Option Addr} {n c : Nat} {xss : List (List Int)} (h : RdL w w.heap.size A n c xss) (hb : Below w.heap.size w w1) : RdL w1 w1.heap.size A n c xss := (h.below hb).mono hb.size

theorem iDegreeOfPoly (v : Int) (A : Option Addr) (n c : Nat) (xss : List (List Int)) (w : World) (h : RdL w w.heap.size A n c xss) (hn : n ≤ 2000000) (ht : totalL xss ≤ 2000000) :
    Calls Try.prog 21 #[.agg #[.int .i64 v, .slice A n c]] w (RetIIC (dopO v xss).1 (dopO v xss).2 w) := by
  obtain ⟨w0, hw0⟩ : ∃ w0, w0 = w.alloc (.cells #[.int .i64 v, .slice A n c] 28) := ⟨_, rfl⟩
  obtain ⟨b, hb⟩ : ∃ b, b = w.heap.size := ⟨_, rfl⟩
  have hB0 : Below w.heap.size w w0 := by rw [hw0]; exact (Below.refl _ _).alloc (Nat.le_refl _) _
  have hlt : b < w0.heap.size := by rw [hw0, hb]; simp
  have k0 : w0.cell? ⟨b, 0, none⟩ = some (.int .i64 v) := by rw [hw0, hb]; simp
  have k1 : w0.cell? ⟨b, 1, none⟩ = some (.slice A n c) := by rw [hw0, hb]; simp
  have HL := Lib.hid h.len
  have H := Lib.hid (rdL_here h hB0); clear h
  have B0 := Lib.hid hB0; clear hB0
  have Hw := Lib.hid hw0; clear hw0
  have Hbe := Lib.hid hb; clear hb
  have K0 := Lib.hid k0
  have K1 := Lib.hid k1
  obtain ⟨r1, hr1⟩ : ∃ r, r = polB v xss := ⟨_, rfl⟩
  have HR1 := Lib.hid hr1; clear hr1
  go_enter Try.func21, Try.ntmps21
  go_wp2_with fail
  rw [← Hw.out, ← Hbe.out]
  refine (iIsPoly v A n c xss _ H.out hn ht).mono ?_
  rintro e w1 ⟨rfl, hb1⟩
  rw [← HR1.out]
  have X1 := Lib.hid hb1; clear hb1
  have k0 := bcell X1.out hlt K0.out
  have k1 := bcell X1.out hlt K1.out
  cases r1
  · have HV := Lib.hid (dopO_bad HR1.out.symm)
    go_wp2_with fail
    go_ret2
    exact RetIIC.mk (v' := 0) (k' := 1) (by rw [HV.out]) (by rw [HV.out]) (B0.out.trans (X1.out.mono B0.out.size))
  · go_wp2_with fail
    refine (isZeroP_any v A n c _ hn).mono ?_
    rintro e w2 ⟨rfl, hb2⟩
    have X2 := Lib.hid (X1.out.trans (hb2.mono X1.out.size)); clear hb2
    have k0 := bcell X2.out hlt K0.out
    have k1 := bcell X2.out hlt K1.out
    rcases Nat.eq_zero_or_pos n with hz | hz
    · rw [decide_eq_true hz]
      have HV := Lib.hid (dopO_nil HR1.out.symm (by rw [HL.out]; exact hz))
      clear hz
      go_wp2_with fail
      go_ret2
      exact RetIIC.mk (v' := 0) (k' := 5) (by rw [HV.out]) (by rw [HV.out]) (B0.out.trans (X2.out.mono B0.out.size))
    · rw [decide_eq_false (show ¬ n = 0 by omega)]
      have HV := Lib.hid (dopO_ok HR1.out.symm (by rw [HL.out]; exact hz))
      clear hz
      go_wp2_with fail
      refine (degreeP_any v A n c _ xss _ (rdL_here H.out X2.out) (Nat.le_refl _) hn ht).mono ?_
      rintro e w3 ⟨rfl, hb3⟩
      have X3 := Lib.hid (X2.out.trans (hb3.mono X2.out.size)); clear hb3
      go_wp2_with fail
      go_ret2
      exact RetIIC.mk (by rw [HV.out]) (k' := 0) (by rw [HV.out]) (B0.out.trans (X3.out.mono B0.out.size))

theorem sDegreeOfPoly (v : Int) (A : Option Addr) (n c : Nat) (xss : List (List Int)) (w : World) (h : RdL w w.heap.size A n c xss) (hn : n ≤ 2000000) (ht : totalL xss ≤ 2000000) :
    Calls Try.prog 19 #[.agg #[.int .i64 v, .slice A n c]] w (RetIIC (dopO v xss).1 (dopO v xss).2 w) := by
  obtain ⟨w0, hw0⟩ : ∃ w0, w0 = w.alloc (.cells #[.int .i64 v, .slice A n c] 28) := ⟨_, rfl⟩
  obtain ⟨b, hb⟩ : ∃ b, b = w.heap.size := ⟨_, rfl⟩
  have hB0 : Below w.heap.size w w0 := by rw [hw0]; exact (Below.refl _ _).alloc (Nat.le_refl _) _
  have hlt : b < w0.heap.size := by rw [hw0, hb]; simp
  have k0 : w0.cell? ⟨b, 0, none⟩ = some (.int .i64 v) := by rw [hw0, hb]; simp
  have k1 : w0.cell? ⟨b, 1, none⟩ = some (.slice A n c) := by rw [hw0, hb]; simp
  have HL := Lib.hid h.len
  have H := Lib.hid (rdL_here h hB0); clear h
  have B0 := Lib.hid hB0; clear hB0
  have Hw := Lib.hid hw0; clear hw0
  have Hbe := Lib.hid hb; clear hb
  have K0 := Lib.hid k0
  have K1 := Lib.hid k1
  obtain ⟨r1, hr1⟩ : ∃ r, r = polB v xss := ⟨_, rfl⟩
  have HR1 := Lib.hid hr1; clear hr1
  go_enter Try.func19, Try.ntmps19
  go_wp2_with fail
  rw [← Hw.out, ← Hbe.out]
  refine (l08Is_any v A n c xss _ H.out hn ht).mono ?_
  rintro e w1 ⟨rfl, hb1⟩
  rw [← HR1.out]
  have X1 := Lib.hid hb1; clear hb1
  have k0 := bcell X1.out hlt K0.out
  have k1 := bcell X1.out hlt K1.out
  cases r1
  · have HV := Lib.hid (dopO_bad HR1.out.symm)
    go_wp2_with fail
    go_ret2
    exact RetIIC.mk (v' := 0) (k' := 1) (by rw [HV.out]) (by rw [HV.out]) (B0.out.trans (X1.out.mono B0.out.size))
  · rcases Nat.eq_zero_or_pos n with hz | hz
    · have HV := Lib.hid (dopO_nil HR1.out.symm (by rw [HL.out]; exact hz))
      have hd : ((n : Int) == 0) = true := by simp; omega
      clear hz
      go_wp2_with fail
      go_ret2
      exact RetIIC.mk (v' := 0) (k' := 5) (by rw [HV.out]) (by rw [HV.out]) (B0.out.trans (X1.out.mono B0.out.size))
    · have HV := Lib.hid (dopO_ok HR1.out.symm (by rw [HL.out]; exact hz))
      have hd : ((n : Int) == 0) = false := by simp; omega
      clear hz
      go_wp2_with fail
      refine (l08Degree_any A n c _ xss _ (rdL_here H.out X1.out) hn ht).mono ?_
      rintro e w3 ⟨rfl, rfl⟩
      go_wp2_with fail
      go_ret2
      exact RetIIC.mk (by rw [HV.out]) (k' := 0) (by rw [HV.out]) (B0.out.trans (X1.out.mono B0.out.size))
end Go.Proofs.Ytejlkobieohgfaa
