/- LambdaForm on both sides. -/
import Derived.Test.YtgmbbpaokcjnhaaGreatDoorFr
import Derived.Test.YtgmbbpaokcjnhaaGreatDoorLwIsLam
import Derived.Test.YtgmbbpaokcjnhaaGreatDoorLamW
namespace Go.Proofs.YtgmbbpaokcjnhaaGreatDoor
open Go.RowKit
set_option linter.unusedVariables false

theorem psT_sumZ : ∀ (x : List Int) (t : Int), (∀ a ∈ x, 0 ≤ a ∧ a ≤ 11) → 0 ≤ t → t + 11 * (x.length : Int) ≤ 9223372036854775807 → psT t x = t + sumZ x
  | [], t, _, _, _ => by simp [psT, sumZ]
  | a :: r, t, h, ht, hb => by
    have ha := h a (List.mem_cons_self ..)
    simp only [List.length_cons] at hb
    have h1 : wrap64 (t + a) = t + a := by unfold wrap64; omega
    have h2 := psT_sumZ r (t + a) (fun b hb => h b (List.mem_cons_of_mem _ hb)) (by omega) (by omega)
    show psT (wrap64 (t + a)) r = t + (a + sumZ r)
    rw [h1, h2]
    omega
theorem wordB_okW {x : List Int} (h : wordB x = true) : okW x := by
  simp only [wordB, Bool.and_eq_true, decide_eq_true_eq, facB, List.all_eq_true, inB] at h
  obtain ⟨⟨h1, h2⟩, h3⟩ := h
  have h4 := psT_sumZ x 0 h2 (by omega) (by omega)
  refine ⟨h1, fun a ha => (h2 a ha).1, by omega⟩
theorem isLB_okW {xss : List (List Int)} (h : isLB xss = true) : ∀ x ∈ xss, okW x := by
  simp only [isLB, Bool.and_eq_true, List.all_eq_true] at h
  exact fun x hx => wordB_okW (h.1.1.2 x hx)
theorem isLB_len {xss : List (List Int)} (h : isLB xss = true) : xss.length ≤ 2000 := by
  simp only [isLB, Bool.and_eq_true, decide_eq_true_eq] at h
  exact h.1.1.1.1
theorem nfS_okW {xss : List (List Int)} (h : ∀ x ∈ xss, okW x) : ∀ x ∈ nfS xss, okW x := by
  intro u hu
  obtain ⟨x, hx, hu⟩ := List.mem_flatMap.1 hu
  have ho := h x hx
  obtain ⟨h1, h2, h3, _⟩ := nf_word hu ho.2.1
  refine ⟨by rw [h1]; exact ho.1, h3, by rw [h2]; exact ho.2.2⟩
theorem formL_okW {xss : List (List Int)} (h : ∀ x ∈ xss, okW x) : ∀ x ∈ formL xss, okW x := fun x hx => nfS_okW h x (oddL_mem hx)
theorem formL_asc (xss : List (List Int)) : Asc (formL xss) := oddL_asc _
theorem formL_bounds {xss : List (List Int)} (h : ∀ x ∈ xss, okW x) : (formL xss).length ≤ 75582 ∧ totalL (formL xss) ≤ 529074 := by
  have h1 := asc_len (formL_asc xss) (formL_okW h)
  have h2 := tot_le (formL xss) 7 fun x hx => (formL_okW h x hx).1
  exact ⟨h1, by omega⟩

def formO (a : List (List Int)) : Int × List (List Int) := if isLB a then (0, formL a) else (1, [])
theorem formO_bad {a : List (List Int)} (h : isLB a = false) : formO a = (1, []) := by simp [formO, h]
theorem formO_ok {a : List (List Int)} (h : isLB a = true) : formO a = (0, formL a) := by simp [formO, h]
theorem formO_bounds (a : List (List Int)) : (formO a).2.length ≤ 75582 ∧ totalL (formO a).2 ≤ 529074 := by
  cases h : isLB a
  · rw [formO_bad h]; simp [totalL]
  · rw [formO_ok h]; exact formL_bounds (isLB_okW h)

theorem iLambdaForm (A1 : Option Addr) (n1 c1 : Nat) (xss : List (List Int)) (w : World) (h1 : RdL w w.heap.size A1 n1 c1 xss) (hn1 : n1 ≤ 2000000) (ht1 : totalL xss ≤ 2000000) :
    Calls Tryz.prog 15 #[.agg #[.slice A1 n1 c1]] w (RetMC (formO xss).2.length (formO xss).2 (formO xss).1 w) := by
  obtain ⟨w0, b, hw0, hbe, hb0, hz0, hF⟩ := alloc2 w (.slice A1 n1 c1) (.slice none 0 0) 26 26
  have HL1 := Lib.hid h1.len
  have H1 := Lib.hid ((h1.below hb0).mono hb0.size); clear h1
  have Hw := Lib.hid hw0; clear hw0
  have Hbe := Lib.hid hbe; clear hbe
  have Hb0 := Lib.hid hb0; clear hb0
  have HZ := Lib.hid hz0; clear hz0
  have F0 := Lib.hid hF; clear hF
  have B0 := Lib.hid (Below.refl w0.heap.size w0)
  obtain ⟨r1, hr1⟩ : ∃ r, r = isLB xss := ⟨_, rfl⟩
  have HR1 := Lib.hid hr1; clear hr1
  go_enter Tryz.func15, Tryz.ntmps15
  go_wp2_with fail
  rw [← Hw.out, ← Hbe.out]
  obtain ⟨k1, k2, f2, _⟩ := F0.out
  refine (iIsLambda A1 n1 c1 xss _ ((H1.out.below B0.out).mono B0.out.size) (by omega) (by omega)).mono ?_
  rintro e w1 ⟨rfl, hb1⟩
  have B1 := Lib.hid (B0.out.trans (hb1.mono B0.out.size)); clear hb1
  obtain ⟨k1, k2, f2, _⟩ := F0.out.below B1.out
  rw [← HR1.out]
  cases r1
  · have HV := Lib.hid (formO_bad HR1.out.symm)
    have hres := cell_set (v := .slice none 0 0) k2
    go_wp2_with fail
    refine bodyPost_ret (v := .tuple #[.agg #[.slice none 0 0], .int .i64 1]) (by simp [results, Tryz.results15, go_sem, hres]) rfl ?_
    exact RetMC.bad (by rw [HV.out]; rfl) (by rw [HV.out]) (by rw [HV.out]) Hb0.out B1.out (by rw [HZ.out, ← Hbe.out]; omega)
  · have HV := Lib.hid (formO_ok HR1.out.symm)
    have hn := isLB_len HR1.out.symm
    rw [HL1.out] at hn
    have Hf := Lib.hid (lamForm_any A1 n1 c1 _ xss w1 (H1.out.below B1.out) B1.out.size (by omega) (isLB_okW HR1.out.symm))
    have HFb := Lib.hid (formL_bounds (isLB_okW HR1.out.symm))
    obtain ⟨y, hy⟩ : ∃ y, y = formL xss := ⟨_, rfl⟩
    rw [← hy] at Hf HV HFb
    clear hy
    obtain ⟨l, hl⟩ : ∃ l, l = y.length := ⟨_, rfl⟩
    have HL := Lib.hid hl
    rw [← hl] at Hf HFb
    clear hl
    have hlb := HFb.out.1
    go_wp2_with fail
    refine Hf.out.mono ?_
    rintro e w2 ⟨A5, c5, rfl, ho5, hb2⟩
    have O5 := Lib.hid (ho5.mono B1.out.size (Nat.le_refl _)); clear ho5
    have B2 := Lib.hid (B1.out.trans (hb2.mono B1.out.size)); clear hb2
    obtain ⟨k1, k2, f2, _⟩ := F0.out.below B2.out
    have M5 := Lib.hid (show OwnM w2 w0.heap.size w2.heap.size A5 l c5 y from ⟨O5.out, O5.out.lt⟩)
    have hres := cell_set (v := .slice A5 l c5) k2
    go_wp2_with fail
    refine bodyPost_ret (v := .tuple #[.agg #[.slice A5 l c5], .int .i64 0]) (by simp [results, Tryz.results15, go_sem, hres]) rfl ?_
    exact RetMC.mk (by rw [HV.out]; exact HL.out) (by rw [HV.out]) (by rw [HV.out]) Hb0.out B2.out (by rw [HZ.out, ← Hbe.out]; omega) M5.out (Nat.le_refl _)

theorem sLambdaForm (A1 : Option Addr) (n1 c1 : Nat) (xss : List (List Int)) (w : World) (h1 : RdL w w.heap.size A1 n1 c1 xss) (hn1 : n1 ≤ 2000000) (ht1 : totalL xss ≤ 2000000) :
    Calls Tryz.prog 16 #[.agg #[.slice A1 n1 c1]] w (RetMC (formO xss).2.length (formO xss).2 (formO xss).1 w) := by
  obtain ⟨w0, b, hw0, hbe, hb0, hz0, hF⟩ := alloc2 w (.slice A1 n1 c1) (.slice none 0 0) 26 26
  have HL1 := Lib.hid h1.len
  have H1 := Lib.hid ((h1.below hb0).mono hb0.size); clear h1
  have Hw := Lib.hid hw0; clear hw0
  have Hbe := Lib.hid hbe; clear hbe
  have Hb0 := Lib.hid hb0; clear hb0
  have HZ := Lib.hid hz0; clear hz0
  have F0 := Lib.hid hF; clear hF
  have B0 := Lib.hid (Below.refl w0.heap.size w0)
  obtain ⟨r1, hr1⟩ : ∃ r, r = isLB xss := ⟨_, rfl⟩
  have HR1 := Lib.hid hr1; clear hr1
  go_enter Tryz.func16, Tryz.ntmps16
  go_wp2_with fail
  rw [← Hw.out, ← Hbe.out]
  obtain ⟨k1, k2, f2, _⟩ := F0.out
  refine (l16Is_any A1 n1 c1 _ xss _ (H1.out.below B0.out) (by omega) (by omega)).mono ?_
  rintro e w1 ⟨rfl, q, rfl⟩
  have B1 := Lib.hid (below_drewN B0.out q)
  obtain ⟨k1, k2, f2, _⟩ := F0.out.below B1.out
  rw [← HR1.out]
  cases r1
  · have HV := Lib.hid (formO_bad HR1.out.symm)
    have hres := cell_set (v := .slice none 0 0) k2
    go_wp2_with fail
    refine bodyPost_ret (v := .tuple #[.agg #[.slice none 0 0], .int .i64 1]) (by simp [results, Tryz.results16, go_sem, hres]) rfl ?_
    exact RetMC.bad (by rw [HV.out]; rfl) (by rw [HV.out]) (by rw [HV.out]) Hb0.out B1.out (by rw [HZ.out, ← Hbe.out]; omega)
  · have HV := Lib.hid (formO_ok HR1.out.symm)
    have Hf := fun (W : World) (hB : Below w0.heap.size w0 W) => Lib.hid (reduce_any A1 n1 c1 _ xss W (H1.out.below hB) hB.size (isLB_asc HR1.out.symm) (isLB_okW HR1.out.symm))
    have HFb := Lib.hid (formL_bounds (isLB_okW HR1.out.symm))
    obtain ⟨y, hy⟩ : ∃ y, y = formL xss := ⟨_, rfl⟩
    rw [← hy] at Hf HV HFb
    clear hy
    obtain ⟨l, hl⟩ : ∃ l, l = y.length := ⟨_, rfl⟩
    have HL := Lib.hid hl
    unfold RetRed at Hf
    rw [← hl] at Hf HFb
    clear hl
    have hlb := HFb.out.1
    go_wp2_with fail
    refine (Hf _ B1.out).out.mono ?_
    rintro e w2 ⟨A5, c5, rfl, hr5, _, hb2⟩
    have B2 := Lib.hid (B1.out.trans (hb2.mono B1.out.size)); clear hb2
    obtain ⟨k1, k2, f2, _⟩ := F0.out.below B2.out
    have R5 := Lib.hid hr5; clear hr5
    go_wp2_with fail
    refine (own2_any A5 l c5 y _ R5.out (by omega) (by have := HFb.out.2; omega)).mono ?_
    rintro e w3 ⟨A6, c6, rfl, ho6, hb3⟩
    have O6 := Lib.hid (ho6.mono B2.out.size (Nat.le_refl _)); clear ho6
    have B3 := Lib.hid (B2.out.trans (hb3.mono B2.out.size)); clear hb3
    obtain ⟨k1, k2, f2, _⟩ := F0.out.below B3.out
    have M6 := Lib.hid (show OwnM w3 w0.heap.size w3.heap.size A6 l c6 y from ⟨O6.out, O6.out.lt⟩)
    have hres := cell_set (v := .slice A6 l c6) k2
    go_wp2_with fail
    refine bodyPost_ret (v := .tuple #[.agg #[.slice A6 l c6], .int .i64 0]) (by simp [results, Tryz.results16, go_sem, hres]) rfl ?_
    exact RetMC.mk (by rw [HV.out]; exact HL.out) (by rw [HV.out]) (by rw [HV.out]) Hb0.out B3.out (by rw [HZ.out, ← Hbe.out]; omega) M6.out (Nat.le_refl _)
end Go.Proofs.YtgmbbpaokcjnhaaGreatDoor
