/- DifferentialOf on both sides. -/
import Derived.Test.YtgmbbpaokcjnhaaGreatDoorDifS
import Derived.Test.YtgmbbpaokcjnhaaGreatDoorPushS
namespace Go.Proofs.YtgmbbpaokcjnhaaGreatDoor
open Go.RowKit
set_option linter.unusedVariables false

theorem headD_at {xss : List (List Int)} {x : List Int} (h : xss[0]? = some x) : xss.headD [] = x := by
  cases xss with
  | nil => simp at h
  | cons y ys => simpa using h

set_option maxHeartbeats 1000000 in
theorem iDifferentialOf (A1 : Option Addr) (n1 c1 : Nat) (xss : List (List Int)) (w : World) (h1 : RdL w w.heap.size A1 n1 c1 xss) (hn1 : n1 ≤ 2000000) (ht1 : totalL xss ≤ 2000000) :
    Calls Tryz.prog 18 #[.agg #[.slice A1 n1 c1]] w (RetMC (difO xss).2.length (difO xss).2 (difO xss).1 w) := by
  obtain ⟨w0, b, hw0, hbe, hb0, hz0, hF⟩ := alloc2 w (.slice A1 n1 c1) (.slice none 0 0) 26 26
  have HL1 := Lib.hid h1.len
  have HE1 := Lib.hid (emp_of h1.len)
  have H1 := Lib.hid ((h1.below hb0).mono hb0.size); clear h1
  have Hw := Lib.hid hw0; clear hw0
  have Hbe := Lib.hid hbe; clear hbe
  have Hb0 := Lib.hid hb0; clear hb0
  have HZ := Lib.hid hz0; clear hz0
  have F0 := Lib.hid hF; clear hF
  have B0 := Lib.hid (Below.refl w0.heap.size w0)
  obtain ⟨r1, hr1⟩ : ∃ r, r = isLB xss := ⟨_, rfl⟩
  have HR1 := Lib.hid hr1; clear hr1
  go_enter Tryz.func18, Tryz.ntmps18
  go_wp2_with fail
  rw [← Hw.out, ← Hbe.out]
  obtain ⟨k1, k2, f2, _⟩ := F0.out
  refine (iIsLambda A1 n1 c1 xss _ ((H1.out.below B0.out).mono B0.out.size) (by omega) (by omega)).mono ?_
  rintro e w1 ⟨rfl, hb1⟩
  have B1 := Lib.hid (B0.out.trans (hb1.mono B0.out.size)); clear hb1
  obtain ⟨k1, k2, f2, _⟩ := F0.out.below B1.out
  rw [← HR1.out]
  cases r1
  · have HV := Lib.hid (difO_bad HR1.out.symm)
    have hres := cell_set (v := .slice none 0 0) k2
    go_wp2_with fail
    refine bodyPost_ret (v := .tuple #[.agg #[.slice none 0 0], .int .i64 1]) (by simp [results, Tryz.results18, go_sem, hres]) rfl ?_
    exact RetMC.bad (by rw [HV.out]; rfl) (by rw [HV.out]) (by rw [HV.out]) Hb0.out B1.out (by rw [HZ.out, ← Hbe.out]; omega)
  · have hn := isLB_len HR1.out.symm
    rw [HL1.out] at hn
    have hd7 := isLB_head HR1.out.symm
    go_wp2_with fail
    refine (isZeroL_any A1 n1 c1 _ (by omega)).mono ?_
    rintro e w2 ⟨rfl, hb2⟩
    have B2 := Lib.hid (B1.out.trans (hb2.mono B1.out.size)); clear hb2
    obtain ⟨k1, k2, f2, _⟩ := F0.out.below B2.out
    rcases Nat.eq_zero_or_pos n1 with hz1 | hz1
    · rw [decide_eq_true hz1]
      have HC : Hid (xss.isEmpty = true ∨ (xss.headD []).length ≠ 7) := Lib.hid (.inl (by rw [HE1.out, decide_eq_true hz1]))
      have HV := Lib.hid (difO_ok HR1.out.symm HC.out)
      have Hdi := Lib.hid (isLB_dif HR1.out.symm HC.out)
      have HFb := Lib.hid (formL_bounds (dAll_okW Hdi.out))
      have Hf := Lib.hid (iDif_any A1 n1 c1 _ xss w2 (H1.out.below B2.out) B2.out.size (by omega) Hdi.out)
      obtain ⟨y, hy⟩ : ∃ y, y = formL (dAll xss) := ⟨_, rfl⟩
      rw [← hy] at Hf HV HFb
      clear hy
      obtain ⟨l, hl⟩ : ∃ l, l = y.length := ⟨_, rfl⟩
      have HL := Lib.hid hl
      rw [← hl] at Hf HFb
      clear hl
      have hlb := HFb.out.1
      clear hz1
      go_wp2_with fail
      refine Hf.out.mono ?_
      rintro e w9 ⟨A5, c5, rfl, ho5, hb9⟩
      have O5 := Lib.hid (ho5.mono B2.out.size (Nat.le_refl _)); clear ho5
      have B9 := Lib.hid (B2.out.trans (hb9.mono B2.out.size)); clear hb9
      obtain ⟨k1, k2, f2, _⟩ := F0.out.below B9.out
      have M5 := Lib.hid (show OwnM w9 w0.heap.size w9.heap.size A5 l c5 y from ⟨O5.out, O5.out.lt⟩)
      have hres := cell_set (v := .slice A5 l c5) k2
      go_wp2_with fail
      refine bodyPost_ret (v := .tuple #[.agg #[.slice A5 l c5], .int .i64 0]) (by simp [results, Tryz.results18, go_sem, hres]) rfl ?_
      exact RetMC.mk (by rw [HV.out]; exact HL.out) (by rw [HV.out]) (by rw [HV.out]) Hb0.out B9.out (by rw [HZ.out, ← Hbe.out]; omega) M5.out (Nat.le_refl _)
    · rw [decide_eq_false (show ¬ n1 = 0 by omega)]
      have HN : Hid (xss.isEmpty = false) := Lib.hid (by rw [HE1.out]; simp; omega)
      obtain ⟨ad3, A3, n3, c3, x0, rfl, _, hx0, hc3, hr3⟩ := (H1.out.below B2.out).at_ hz1
      have hh3 := headD_at hx0.out
      have hc33 : w2.cell? ad3 = some (.slice A3 n3 c3) := by simpa [Addr.add] using hc3
      have hq1 : (0 : Int) < (n1 : Int) := by omega
      have hl3 := hr3.len
      clear hc3 hr3 hx0
      by_cases h7 : n3 = 7
      · have hb7 : ((n3 : Int) == 7) = true := by simp; omega
        have HV := Lib.hid (difO_lim HR1.out.symm HN.out (by rw [hh3, hl3]; exact h7))
        clear hl3 hh3
        have hres := cell_set (v := .slice none 0 0) k2
        subst h7
        go_wp2_with fail
        refine bodyPost_ret (v := .tuple #[.agg #[.slice none 0 0], .int .i64 3]) (by simp [results, Tryz.results18, go_sem, hres]) rfl ?_
        exact RetMC.bad (by rw [HV.out]; rfl) (by rw [HV.out]) (by rw [HV.out]) Hb0.out B2.out (by rw [HZ.out, ← Hbe.out]; omega)
      · have hb7 : ((n3 : Int) == 7) = false := by simp; omega
        have HC : Hid (xss.isEmpty = true ∨ (xss.headD []).length ≠ 7) := Lib.hid (.inr (by rw [hh3, hl3]; exact h7))
        clear hl3 hh3
        have HV := Lib.hid (difO_ok HR1.out.symm HC.out)
        have Hdi := Lib.hid (isLB_dif HR1.out.symm HC.out)
        have HFb := Lib.hid (formL_bounds (dAll_okW Hdi.out))
        have Hf := Lib.hid (iDif_any (some ad3) n1 c1 _ xss w2 (H1.out.below B2.out) B2.out.size (by omega) Hdi.out)
        obtain ⟨y, hy⟩ : ∃ y, y = formL (dAll xss) := ⟨_, rfl⟩
        rw [← hy] at Hf HV HFb
        clear hy
        obtain ⟨l, hl⟩ : ∃ l, l = y.length := ⟨_, rfl⟩
        have HL := Lib.hid hl
        rw [← hl] at Hf HFb
        clear hl
        have hlb := HFb.out.1
        go_wp2_with fail
        refine Hf.out.mono ?_
        rintro e w9 ⟨A5, c5, rfl, ho5, hb9⟩
        have O5 := Lib.hid (ho5.mono B2.out.size (Nat.le_refl _)); clear ho5
        have B9 := Lib.hid (B2.out.trans (hb9.mono B2.out.size)); clear hb9
        obtain ⟨k1, k2, f2, _⟩ := F0.out.below B9.out
        have M5 := Lib.hid (show OwnM w9 w0.heap.size w9.heap.size A5 l c5 y from ⟨O5.out, O5.out.lt⟩)
        have hres := cell_set (v := .slice A5 l c5) k2
        go_wp2_with fail
        refine bodyPost_ret (v := .tuple #[.agg #[.slice A5 l c5], .int .i64 0]) (by simp [results, Tryz.results18, go_sem, hres]) rfl ?_
        exact RetMC.mk (by rw [HV.out]; exact HL.out) (by rw [HV.out]) (by rw [HV.out]) Hb0.out B9.out (by rw [HZ.out, ← Hbe.out]; omega) M5.out (Nat.le_refl _)

set_option maxHeartbeats 1000000 in
theorem sDifferentialOf (A1 : Option Addr) (n1 c1 : Nat) (xss : List (List Int)) (w : World) (h1 : RdL w w.heap.size A1 n1 c1 xss) (hn1 : n1 ≤ 2000000) (ht1 : totalL xss ≤ 2000000) :
    Calls Tryz.prog 19 #[.agg #[.slice A1 n1 c1]] w (RetMC (difO xss).2.length (difO xss).2 (difO xss).1 w) := by
  obtain ⟨w0, b, hw0, hbe, hb0, hz0, hF⟩ := alloc2 w (.slice A1 n1 c1) (.slice none 0 0) 26 26
  have HL1 := Lib.hid h1.len
  have HE1 := Lib.hid (emp_of h1.len)
  have H1 := Lib.hid ((h1.below hb0).mono hb0.size); clear h1
  have Hw := Lib.hid hw0; clear hw0
  have Hbe := Lib.hid hbe; clear hbe
  have Hb0 := Lib.hid hb0; clear hb0
  have HZ := Lib.hid hz0; clear hz0
  have F0 := Lib.hid hF; clear hF
  have B0 := Lib.hid (Below.refl w0.heap.size w0)
  obtain ⟨r1, hr1⟩ : ∃ r, r = isLB xss := ⟨_, rfl⟩
  have HR1 := Lib.hid hr1; clear hr1
  go_enter Tryz.func19, Tryz.ntmps19
  go_wp2_with fail
  rw [← Hw.out, ← Hbe.out]
  obtain ⟨k1, k2, f2, _⟩ := F0.out
  refine (l16Is_any A1 n1 c1 _ xss _ (H1.out.below B0.out) (by omega) (by omega)).mono ?_
  rintro e w1 ⟨rfl, q1, hq1⟩
  have hb1 := below_drewN (Below.refl w0.heap.size w0) q1
  rw [← hq1] at hb1
  clear hq1
  have B1 := Lib.hid (B0.out.trans (hb1.mono B0.out.size)); clear hb1
  obtain ⟨k1, k2, f2, _⟩ := F0.out.below B1.out
  rw [← HR1.out]
  cases r1
  · have HV := Lib.hid (difO_bad HR1.out.symm)
    have hres := cell_set (v := .slice none 0 0) k2
    go_wp2_with fail
    refine bodyPost_ret (v := .tuple #[.agg #[.slice none 0 0], .int .i64 1]) (by simp [results, Tryz.results19, go_sem, hres]) rfl ?_
    exact RetMC.bad (by rw [HV.out]; rfl) (by rw [HV.out]) (by rw [HV.out]) Hb0.out B1.out (by rw [HZ.out, ← Hbe.out]; omega)
  · have hn := isLB_len HR1.out.symm
    rw [HL1.out] at hn
    have hd7 := isLB_head HR1.out.symm
    rcases Nat.eq_zero_or_pos n1 with rfl | hz1
    · have HC : Hid (xss.isEmpty = true ∨ (xss.headD []).length ≠ 7) := Lib.hid (.inl (by rw [HE1.out]; rfl))
      have HV := Lib.hid (difO_ok HR1.out.symm HC.out)
      have Hdi := Lib.hid (isLB_dif HR1.out.symm HC.out)
      have HFb := Lib.hid (formL_bounds (dAll_okW Hdi.out))
      have Hf := fun (W : World) (hB : Below w0.heap.size w0 W) => Lib.hid (sDif_any A1 0 c1 _ xss W (H1.out.below hB) hB.size (by omega) Hdi.out)
      obtain ⟨y, hy⟩ : ∃ y, y = formL (dAll xss) := ⟨_, rfl⟩
      rw [← hy] at Hf HV HFb
      clear hy
      obtain ⟨l, hl⟩ : ∃ l, l = y.length := ⟨_, rfl⟩
      have HL := Lib.hid hl
      rw [← hl] at Hf HFb
      clear hl
      have hlb := HFb.out.1
      have B3 := B1
      go_wp2_with fail
      refine (Hf _ B3.out).out.mono ?_
      rintro e w9 ⟨A5, c5, rfl, ho5, hb9⟩
      have O5 := Lib.hid (ho5.mono B3.out.size (Nat.le_refl _)); clear ho5
      have B9 := Lib.hid (B3.out.trans (hb9.mono B3.out.size)); clear hb9
      obtain ⟨k1, k2, f2, _⟩ := F0.out.below B9.out
      have M5 := Lib.hid (show OwnM w9 w0.heap.size w9.heap.size A5 l c5 y from ⟨O5.out, O5.out.lt⟩)
      have hres := cell_set (v := .slice A5 l c5) k2
      go_wp2_with fail
      refine bodyPost_ret (v := .tuple #[.agg #[.slice A5 l c5], .int .i64 0]) (by simp [results, Tryz.results19, go_sem, hres]) rfl ?_
      exact RetMC.mk (by rw [HV.out]; exact HL.out) (by rw [HV.out]) (by rw [HV.out]) Hb0.out B9.out (by rw [HZ.out, ← Hbe.out]; omega) M5.out (Nat.le_refl _)
    · have HN : Hid (xss.isEmpty = false) := Lib.hid (by rw [HE1.out]; simp; omega)
      obtain ⟨ad3, A3, n3, c3, x0, rfl, _, hx0, hc3, hr3⟩ := (H1.out.below B1.out).at_ hz1
      have hh3 := headD_at hx0.out
      have hc33 : w1.cell? ad3 = some (.slice A3 n3 c3) := by simpa [Addr.add] using hc3
      have hq1 : (0 : Int) < (n1 : Int) := by omega
      have hp1 : decide ((0 : Int) < (n1 : Int)) = true := by simpa using hz1
      have hl3 := hr3.len
      clear hc3 hr3 hx0
      by_cases h7 : n3 = 7
      · have hb7 : ((n3 : Int) == 7) = true := by simp; omega
        have HV := Lib.hid (difO_lim HR1.out.symm HN.out (by rw [hh3, hl3]; exact h7))
        clear hl3 hh3
        subst h7
        have B3 := B1
        have hres := cell_set (v := .slice none 0 0) k2
        go_wp2_with fail
        refine bodyPost_ret (v := .tuple #[.agg #[.slice none 0 0], .int .i64 3]) (by simp [results, Tryz.results19, go_sem, hres]) rfl ?_
        exact RetMC.bad (by rw [HV.out]; rfl) (by rw [HV.out]) (by rw [HV.out]) Hb0.out B3.out (by rw [HZ.out, ← Hbe.out]; omega)
      · have hb7 : ((n3 : Int) == 7) = false := by simp; omega
        have HC : Hid (xss.isEmpty = true ∨ (xss.headD []).length ≠ 7) := Lib.hid (.inr (by rw [hh3, hl3]; exact h7))
        clear hl3 hh3
        have HV := Lib.hid (difO_ok HR1.out.symm HC.out)
        have Hdi := Lib.hid (isLB_dif HR1.out.symm HC.out)
        have HFb := Lib.hid (formL_bounds (dAll_okW Hdi.out))
        have Hf := fun (W : World) (hB : Below w0.heap.size w0 W) => Lib.hid (sDif_any (some ad3) n1 c1 _ xss W (H1.out.below hB) hB.size (by omega) Hdi.out)
        obtain ⟨y, hy⟩ : ∃ y, y = formL (dAll xss) := ⟨_, rfl⟩
        rw [← hy] at Hf HV HFb
        clear hy
        obtain ⟨l, hl⟩ : ∃ l, l = y.length := ⟨_, rfl⟩
        have HL := Lib.hid hl
        rw [← hl] at Hf HFb
        clear hl
        have hlb := HFb.out.1
        have B3 := B1
        go_wp2_with fail
        refine (Hf _ B3.out).out.mono ?_
        rintro e w9 ⟨A5, c5, rfl, ho5, hb9⟩
        have O5 := Lib.hid (ho5.mono B3.out.size (Nat.le_refl _)); clear ho5
        have B9 := Lib.hid (B3.out.trans (hb9.mono B3.out.size)); clear hb9
        obtain ⟨k1, k2, f2, _⟩ := F0.out.below B9.out
        have M5 := Lib.hid (show OwnM w9 w0.heap.size w9.heap.size A5 l c5 y from ⟨O5.out, O5.out.lt⟩)
        have hres := cell_set (v := .slice A5 l c5) k2
        go_wp2_with fail
        refine bodyPost_ret (v := .tuple #[.agg #[.slice A5 l c5], .int .i64 0]) (by simp [results, Tryz.results19, go_sem, hres]) rfl ?_
        exact RetMC.mk (by rw [HV.out]; exact HL.out) (by rw [HV.out]) (by rw [HV.out]) Hb0.out B9.out (by rw [HZ.out, ← Hbe.out]; omega) M5.out (Nat.le_refl _)
end Go.Proofs.YtgmbbpaokcjnhaaGreatDoor
