/- MultiplyLambda on both sides. -/
import Derived.Test.YthaokhjkibbplaaAddL
import Derived.Test.YthaokhjkibbplaaMulL
namespace Go.Proofs.Ythaokhjkibbplaa
open Go.RowKit
set_option linter.unusedVariables false

theorem isLB_all {xss : List (List Int)} (h : isLB xss = true) : ∀ x ∈ xss, okW x ∧ x.length = (xss.headD []).length ∧ sumZ x = psT 0 (xss.headD []) := by
  intro x hx
  have h0 := isLB_okW h x hx
  rw [isLB_eq] at h
  simp only [Bool.and_eq_true, List.all_eq_true] at h
  have h1 := h.2 x hx
  simp only [okx, Bool.and_eq_true, decide_eq_true_eq, lenI] at h1
  obtain ⟨⟨h2, h3⟩, h4⟩ := h1
  simp only [wordB, Bool.and_eq_true, decide_eq_true_eq, facB, List.all_eq_true, inB] at h2
  have h5 := psT_sumZ x 0 h2.1.2 (by omega) (by omega)
  have h3 := of_decide_eq_true h3
  exact ⟨h0, by omega, by omega⟩
theorem isLB_head {xss : List (List Int)} (h : isLB xss = true) : (xss.headD []).length ≤ 7 ∧ 0 ≤ psT 0 (xss.headD []) ∧ psT 0 (xss.headD []) ≤ 11 := by
  cases xss with
  | nil => simp [psT]
  | cons x r =>
    obtain ⟨h1, h2, h3⟩ := isLB_all h x (by simp)
    rw [← h2, ← h3]
    exact ⟨h1.1, sumZ_nonneg h1.2.1, h1.2.2⟩
theorem isLB_mul {xss yss : List (List Int)} (h1 : isLB xss = true) (h2 : isLB yss = true) (hl : (xss.headD []).length + (yss.headD []).length ≤ 7) (hs : psT 0 (xss.headD []) + psT 0 (yss.headD []) ≤ 11) : ∀ x ∈ xss, ∀ y ∈ yss, okW (x ++ y) := by
  intro x hx y hy
  obtain ⟨a1, a2, a3⟩ := isLB_all h1 x hx
  obtain ⟨b1, b2, b3⟩ := isLB_all h2 y hy
  exact okW_app a1.2.1 b1.2.1 (by omega) (by omega)
theorem formL_mem {xss : List (List Int)} (h : isLB xss = true) : ∀ x ∈ formL xss, okW x ∧ x.length = (xss.headD []).length ∧ sumZ x = psT 0 (xss.headD []) := by
  intro u hu
  obtain ⟨x, hx, hu⟩ := List.mem_flatMap.1 (oddL_mem hu)
  obtain ⟨a1, a2, a3⟩ := isLB_all h x hx
  obtain ⟨h1, h2, h3, _⟩ := nf_word hu a1.2.1
  exact ⟨⟨by rw [h1]; exact a1.1, h3, by rw [h2]; exact a1.2.2⟩, by omega, by omega⟩
theorem form_mul {xss yss : List (List Int)} (h1 : isLB xss = true) (h2 : isLB yss = true) (hl : (xss.headD []).length + (yss.headD []).length ≤ 7) (hs : psT 0 (xss.headD []) + psT 0 (yss.headD []) ≤ 11) : ∀ x ∈ formL xss, ∀ y ∈ formL yss, okW (x ++ y) := by
  intro x hx y hy
  obtain ⟨a1, a2, a3⟩ := formL_mem h1 x hx
  obtain ⟨b1, b2, b3⟩ := formL_mem h2 y hy
  exact okW_app a1.2.1 b1.2.1 (by omega) (by omega)
theorem form_mul_len {xss yss : List (List Int)} (h1 : isLB xss = true) (h2 : isLB yss = true) (hl : (xss.headD []).length + (yss.headD []).length ≤ 7) (hs : psT 0 (xss.headD []) + psT 0 (yss.headD []) ≤ 11) : (prods (formL xss) (formL yss)).length ≤ 75582 :=
  prods_len (asc_nodup (formL_asc _)) (asc_nodup (formL_asc _)) (fun x hx => (formL_mem h1 x hx).2.1) (form_mul h1 h2 hl hs)
theorem formL_odd (s : List (List Int)) : formL (oddL s) = formL s := oddL_congr (nfS_same (oddL_same s))

def mulO (a b : List (List Int)) : Int × List (List Int) :=
  if isLB a && isLB b then
    if a.isEmpty || b.isEmpty then (0, [])
    else if (a.headD []).length + (b.headD []).length ≤ 7 ∧ psT 0 (a.headD []) + psT 0 (b.headD []) ≤ 11 then (0, formL (prods a b)) else (3, [])
  else (1, [])
theorem mulO_bad1 {a b : List (List Int)} (h : isLB a = false) : mulO a b = (1, []) := by simp [mulO, h]
theorem mulO_bad2 {a b : List (List Int)} (h : isLB b = false) : mulO a b = (1, []) := by simp [mulO, h]
theorem mulO_zero {a b : List (List Int)} (h1 : isLB a = true) (h2 : isLB b = true) (h3 : (a.isEmpty || b.isEmpty) = true) : mulO a b = (0, []) := by unfold mulO; rw [h1, h2, h3]; simp
theorem mulO_lim {a b : List (List Int)} (h1 : isLB a = true) (h2 : isLB b = true) (h3 : (a.isEmpty || b.isEmpty) = false) (h4 : ¬ ((a.headD []).length + (b.headD []).length ≤ 7 ∧ psT 0 (a.headD []) + psT 0 (b.headD []) ≤ 11)) : mulO a b = (3, []) := by
  unfold mulO; rw [h1, h2, h3, if_pos (by simp), if_neg (by simp), if_neg h4]
theorem mulO_ok {a b : List (List Int)} (h1 : isLB a = true) (h2 : isLB b = true) (h3 : (a.isEmpty || b.isEmpty) = false) (h4 : (a.headD []).length + (b.headD []).length ≤ 7 ∧ psT 0 (a.headD []) + psT 0 (b.headD []) ≤ 11) : mulO a b = (0, formL (prods a b)) := by
  unfold mulO; rw [h1, h2, h3, if_pos (by simp), if_neg (by simp), if_pos h4]
theorem prods_okW {a b : List (List Int)} (h : ∀ x ∈ a, ∀ y ∈ b, okW (x ++ y)) : ∀ z ∈ prods a b, okW z := by
  intro z hz
  obtain ⟨x, hx, y, hy, rfl⟩ := mem_prods hz
  exact h x hx y hy
theorem mulO_bounds (a b : List (List Int)) : (mulO a b).2.length ≤ 75582 ∧ totalL (mulO a b).2 ≤ 529074 := by
  unfold mulO
  split
  · rename_i h
    rw [Bool.and_eq_true] at h
    split
    · simp [totalL]
    · split
      · rename_i h2
        exact formL_bounds (prods_okW (isLB_mul h.1 h.2 h2.1 h2.2))
      · simp [totalL]
  · simp [totalL]

set_option maxRecDepth 100000 in
set_option maxHeartbeats 1000000 in
theorem iMultiplyLambda (A1 A2 : Option Addr) (n1 c1 n2 c2 : Nat) (xss yss : List (List Int)) (w : World) (h1 : RdL w w.heap.size A1 n1 c1 xss) (h2 : RdL w w.heap.size A2 n2 c2 yss) (hn1 : n1 ≤ 2000000) (hn2 : n2 ≤ 2000000) (ht1 : totalL xss ≤ 2000000) (ht2 : totalL yss ≤ 2000000) :
    Calls Try.prog 20 #[.agg #[.slice A1 n1 c1], .agg #[.slice A2 n2 c2]] w (RetMC (mulO xss yss).2.length (mulO xss yss).2 (mulO xss yss).1 w) := by
  obtain ⟨w0, b, hw0, hbe, hb0, hz0, hF⟩ := alloc3 w (.slice A1 n1 c1) (.slice A2 n2 c2) (.slice none 0 0) 27 27 27
  have HE1 := Lib.hid (emp_of h1.len)
  have HE2 := Lib.hid (emp_of h2.len)
  have HX1 := Lib.hid (fun (x : List Int) (hx : x ∈ xss) => Nat.le_trans (len_le_tot hx) ht1)
  have HX2 := Lib.hid (fun (x : List Int) (hx : x ∈ yss) => Nat.le_trans (len_le_tot hx) ht2)
  have HL1 := Lib.hid h1.len
  have HL2 := Lib.hid h2.len
  have H1 := Lib.hid ((h1.below hb0).mono hb0.size); clear h1
  have H2 := Lib.hid ((h2.below hb0).mono hb0.size); clear h2
  have Hw := Lib.hid hw0; clear hw0
  have Hbe := Lib.hid hbe; clear hbe
  have Hb0 := Lib.hid hb0; clear hb0
  have HZ := Lib.hid hz0; clear hz0
  have F0 := Lib.hid hF; clear hF
  have B0 := Lib.hid (Below.refl w0.heap.size w0)
  obtain ⟨r1, hr1⟩ : ∃ r, r = isLB xss := ⟨_, rfl⟩
  have HR1 := Lib.hid hr1; clear hr1
  obtain ⟨r2, hr2⟩ : ∃ r, r = isLB yss := ⟨_, rfl⟩
  have HR2 := Lib.hid hr2; clear hr2
  go_enter Try.func20, Try.ntmps20
  go_wp2_with fail
  rw [← Hw.out, ← Hbe.out]
  obtain ⟨k1, k2, k3, f3, _⟩ := F0.out
  refine (iIsLambda A1 n1 c1 xss _ ((H1.out.below B0.out).mono B0.out.size) (by omega) (by omega)).mono ?_
  rintro e w1 ⟨rfl, hb1⟩
  have B1 := Lib.hid (B0.out.trans (hb1.mono B0.out.size)); clear hb1
  obtain ⟨k1, k2, k3, f3, _⟩ := F0.out.below B1.out
  rw [← HR1.out]
  cases r1
  · have HV := Lib.hid (mulO_bad1 (b := yss) HR1.out.symm)
    have hres := cell_set (v := .slice none 0 0) k3
    go_wp2_with fail
    refine bodyPost_ret (v := .tuple #[.agg #[.slice none 0 0], .int .i64 1]) (by simp [results, Try.results20, go_sem, hres]) rfl ?_
    exact RetMC.bad (by rw [HV.out]; rfl) (by rw [HV.out]) (by rw [HV.out]) Hb0.out B1.out (by rw [HZ.out, ← Hbe.out]; omega)
  · go_wp2_with fail
    refine (iIsLambda A2 n2 c2 yss _ ((H2.out.below B1.out).mono B1.out.size) (by omega) (by omega)).mono ?_
    rintro e w2 ⟨rfl, hb2⟩
    have B2 := Lib.hid (B1.out.trans (hb2.mono B1.out.size)); clear hb2
    obtain ⟨k1, k2, k3, f3, _⟩ := F0.out.below B2.out
    rw [← HR2.out]
    cases r2
    · have HV := Lib.hid (mulO_bad2 (a := xss) HR2.out.symm)
      have hres := cell_set (v := .slice none 0 0) k3
      go_wp2_with fail
      refine bodyPost_ret (v := .tuple #[.agg #[.slice none 0 0], .int .i64 1]) (by simp [results, Try.results20, go_sem, hres]) rfl ?_
      exact RetMC.bad (by rw [HV.out]; rfl) (by rw [HV.out]) (by rw [HV.out]) Hb0.out B2.out (by rw [HZ.out, ← Hbe.out]; omega)
    · go_wp2_with fail
      refine (isZeroL_any A1 n1 c1 _ (by omega)).mono ?_
      rintro e w3 ⟨rfl, hb3⟩
      have B3 := Lib.hid (B2.out.trans (hb3.mono B2.out.size)); clear hb3
      obtain ⟨k1, k2, k3, f3, _⟩ := F0.out.below B3.out
      rcases Nat.eq_zero_or_pos n1 with hz1 | hz1
      · rw [decide_eq_true hz1]
        have HV := Lib.hid (mulO_zero HR1.out.symm HR2.out.symm (by rw [HE1.out, decide_eq_true hz1]; rfl))
        clear hz1
        have hres := cell_set (v := .slice none 0 0) k3
        go_wp2_with fail
        refine bodyPost_ret (v := .tuple #[.agg #[.slice none 0 0], .int .i64 0]) (by simp [results, Try.results20, go_sem, hres]) rfl ?_
        exact RetMC.bad (by rw [HV.out]; rfl) (by rw [HV.out]) (by rw [HV.out]) Hb0.out B3.out (by rw [HZ.out, ← Hbe.out]; omega)
      · rw [decide_eq_false (show ¬ n1 = 0 by omega)]
        go_wp2_with fail
        refine (isZeroL_any A2 n2 c2 _ (by omega)).mono ?_
        rintro e w4 ⟨rfl, hb4⟩
        have B4 := Lib.hid (B3.out.trans (hb4.mono B3.out.size)); clear hb4
        obtain ⟨k1, k2, k3, f3, _⟩ := F0.out.below B4.out
        rcases Nat.eq_zero_or_pos n2 with hz2 | hz2
        · rw [decide_eq_true hz2]
          have HV := Lib.hid (mulO_zero HR1.out.symm HR2.out.symm (by rw [HE2.out, decide_eq_true hz2]; simp))
          clear hz2
          have hres := cell_set (v := .slice none 0 0) k3
          go_wp2_with fail
          refine bodyPost_ret (v := .tuple #[.agg #[.slice none 0 0], .int .i64 0]) (by simp [results, Try.results20, go_sem, hres]) rfl ?_
          exact RetMC.bad (by rw [HV.out]; rfl) (by rw [HV.out]) (by rw [HV.out]) Hb0.out B4.out (by rw [HZ.out, ← Hbe.out]; omega)
        · rw [decide_eq_false (show ¬ n2 = 0 by omega)]
          have HN : Hid ((xss.isEmpty || yss.isEmpty) = false) := Lib.hid (by rw [HE1.out, HE2.out]; simp; omega)
          have HB := Lib.hid (mulO_lim HR1.out.symm HR2.out.symm HN.out)
          have HG := Lib.hid (mulO_ok HR1.out.symm HR2.out.symm HN.out)
          have Hm1 := Lib.hid (isLB_mul HR1.out.symm HR2.out.symm)
          have Hm2 := Lib.hid (form_mul HR1.out.symm HR2.out.symm)
          have Hm3 := Lib.hid (form_mul_len HR1.out.symm HR2.out.symm)
          have hh1 := isLB_head HR1.out.symm
          have hh2 := isLB_head HR2.out.symm
          have hn1 := isLB_len HR1.out.symm
          have hn2 := isLB_len HR2.out.symm
          rw [HL1.out] at hn1
          rw [HL2.out] at hn2
          have HSx := fun (W : World) (Bx : Below w0.heap.size w0 W) => Lib.hid (sizeL_any A1 n1 c1 _ xss W (H1.out.below Bx) Bx.size hz1 HX1.out)
          have HSy := fun (W : World) (Bx : Below w0.heap.size w0 W) => Lib.hid (sizeL_any A2 n2 c2 _ yss W (H2.out.below Bx) Bx.size hz2 HX2.out)
          unfold RetSz at HSx HSy
          obtain ⟨v1, hv1⟩ : ∃ v, v = (xss.headD []).length := ⟨_, rfl⟩
          obtain ⟨v2, hv2⟩ : ∃ v, v = (yss.headD []).length := ⟨_, rfl⟩
          obtain ⟨u1, hu1⟩ : ∃ u, u = psT 0 (xss.headD []) := ⟨_, rfl⟩
          obtain ⟨u2, hu2⟩ : ∃ u, u = psT 0 (yss.headD []) := ⟨_, rfl⟩
          rw [← hv1, ← hu1] at HSx hh1
          rw [← hv2, ← hu2] at HSy hh2
          rw [← hv1, ← hu1, ← hv2, ← hu2] at HB HG Hm1 Hm2 Hm3
          clear hv1 hv2 hu1 hu2
          obtain ⟨hh1, hh3, hh4⟩ := hh1
          obtain ⟨hh2, hh5, hh6⟩ := hh2
          go_wp2_with fail
          refine ((HSx _ B4.out).out).mono ?_
          rintro e w5 ⟨rfl, hb5⟩
          have B5 := Lib.hid (B4.out.trans (hb5.mono B4.out.size)); clear hb5
          obtain ⟨k1, k2, k3, f3, _⟩ := F0.out.below B5.out
          go_wp2_with fail
          refine ((HSy _ B5.out).out).mono ?_
          rintro e w6 ⟨rfl, hb6⟩
          have B6 := Lib.hid (B5.out.trans (hb6.mono B5.out.size)); clear hb6
          obtain ⟨k1, k2, k3, f3, _⟩ := F0.out.below B6.out
          clear HSx HSy
          by_cases hlen : v1 + v2 ≤ 7
          · go_wp2_with fail
            refine (factor_any _ _).mono ?_
            rintro e w7 ⟨rfl, rfl⟩
            by_cases hsum : u1 + u2 ≤ 11
            · have hin : inB (u1 + u2) 0 11 = true := by simp [inB]; omega
              rw [hin]
              have HV := Lib.hid (HG.out ⟨hlen, hsum⟩)
              have Hm3 := Lib.hid (Hm3.out hlen hsum)
              have Hpo := Lib.hid (prods_okW (Hm2.out hlen hsum))
              have Hfx := Lib.hid (fun x hx => (formL_okW (isLB_okW HR1.out.symm) x hx).1)
              have Hfy := Lib.hid (fun x hx => (formL_okW (isLB_okW HR2.out.symm) x hx).1)
              have HFP : Hid (formL (prods (formL xss) (formL yss)) = formL (prods xss yss)) := Lib.hid (form_prods (Hm1.out hlen hsum) (fun y hy => (isLB_okW HR2.out.symm y hy).2.1))
              have HFb := Lib.hid (formL_bounds Hpo.out)
              have Hba := formL_bounds (isLB_okW HR1.out.symm)
              have Hbb := formL_bounds (isLB_okW HR2.out.symm)
              have HFa := fun (W : World) (hB : Below w0.heap.size w0 W) => Lib.hid (lamForm_any A1 n1 c1 _ xss W (H1.out.below hB) hB.size (by omega) (isLB_okW HR1.out.symm))
              have HFc := fun (W : World) (hB : Below w0.heap.size w0 W) => Lib.hid (lamForm_any A2 n2 c2 _ yss W (H2.out.below hB) hB.size (by omega) (isLB_okW HR2.out.symm))
              rw [← HFP.out] at HV
              clear HFP HB HG Hm1 Hm2 hin
              obtain ⟨fa, hfa⟩ : ∃ f, f = formL xss := ⟨_, rfl⟩
              obtain ⟨fb, hfb⟩ : ∃ f, f = formL yss := ⟨_, rfl⟩
              rw [← hfa] at HFa Hba Hfx Hm3 Hpo HFb HV
              rw [← hfb] at HFc Hbb Hfy Hm3 Hpo HFb HV
              clear hfa hfb
              obtain ⟨la, hla⟩ : ∃ l, l = fa.length := ⟨_, rfl⟩
              obtain ⟨lb, hlb⟩ : ∃ l, l = fb.length := ⟨_, rfl⟩
              have Hm3 := Hm3.out
              rw [prods_length] at Hm3
              rw [← hla] at HFa Hba Hm3
              rw [← hlb] at HFc Hbb Hm3
              have HLa := Lib.hid hla
              have HLb := Lib.hid hlb
              have Hba := Hba.1
              have Hbb := Hbb.1
              obtain ⟨fp, hfp⟩ : ∃ f, f = prods fa fb := ⟨_, rfl⟩
              have HP := fun (W : World) (A B : Option Addr) (c d : Nat) (ha : RdL W W.heap.size A la c fa) (hb : RdL W W.heap.size B lb d fb) => Lib.hid (products_any A B la c lb d _ _ fa fb W ha hb (Nat.le_refl _) (Nat.le_refl _) (by omega) (by omega) (by omega) Hfx.out Hfy.out)
              have HPl := Lib.hid (prods_length fa fb)
              rw [← hfp] at HP Hpo HFb HV HPl
              clear hfp
              obtain ⟨lp, hlp⟩ : ∃ l, l = fp.length := ⟨_, rfl⟩
              rw [← hlp] at HP HPl
              have hlpb : lp ≤ 75582 := by rw [HPl.out, ← HLa.out, ← HLb.out]; exact Hm3
              have HQ := fun (W : World) (A : Option Addr) (c : Nat) (ha : RdL W W.heap.size A lp c fp) => Lib.hid (lamForm_any A lp c _ fp W ha (Nat.le_refl _) (by omega) Hpo.out)
              clear hla hlb hlp Hm3 HPl
              obtain ⟨fq, hfq⟩ : ∃ f, f = formL fp := ⟨_, rfl⟩
              rw [← hfq] at HQ HFb HV
              clear hfq
              obtain ⟨lq, hlq⟩ : ∃ l, l = fq.length := ⟨_, rfl⟩
              rw [← hlq] at HQ HFb
              have HLq := Lib.hid hlq
              have hlqb := HFb.out.1
              clear hlq
              have Bd := Lib.hid (show Below w0.heap.size w0 w7.drew from below_drewN B6.out 1)
              go_wp2_with fail
              go_region_held3 (fun w' => w'.cell? ⟨b, 0, none⟩ = some (.slice A1 n1 c1) ∧ w'.cell? ⟨b + 1, 0, none⟩ = some (.slice A2 n2 c2)) (first | exact ⟨k1, k2⟩ | exact ⟨ka1, ka2⟩ | exact ⟨kb1, kb2⟩ | exact ⟨kc1, kc2⟩ | exact ⟨kd1, kd2⟩ | exact ⟨(World.cell?_setCell_far _ _ _ _ (by simp; omega)).trans kd1, (World.cell?_setCell_far _ _ _ _ (by simp)).trans kd2⟩)
                (first
                  | (go_at_call_of 42 A1
                     refine (HFa _ Bd.out).out.mono ?_
                     rintro e w8 ⟨A5, c5, rfl, ho5, hb5⟩
                     have B8 := Lib.hid (Bd.out.trans (hb5.mono Bd.out.size))
                     have R5 := Lib.hid ho5.rd
                     obtain ⟨ka1, ka2, _⟩ := F0.out.below B8.out
                     clear ho5 hb5)
                  | (go_at_call_of 42 A2
                     refine (HFc _ B8.out).out.mono ?_
                     rintro e w9 ⟨A6, c6, rfl, ho6, hb6⟩
                     have B9 := Lib.hid (B8.out.trans (hb6.mono B8.out.size))
                     have R6 := Lib.hid ho6.rd
                     have R55 := Lib.hid ((R5.out.below hb6).mono hb6.size)
                     obtain ⟨kb1, kb2, _⟩ := F0.out.below B9.out
                     clear ho6 hb6)
                  | (go_at_call 45
                     refine (HP _ _ _ _ _ R55.out R6.out).out.mono ?_
                     rintro e w10 ⟨A7, c7, rfl, ho7, hb7⟩
                     have B10 := Lib.hid (B9.out.trans (hb7.mono B9.out.size))
                     have R7 := Lib.hid ho7.rd
                     obtain ⟨kc1, kc2, _⟩ := F0.out.below B10.out
                     clear ho7 hb7)
                  | (go_at_call_of 42 A7
                     refine (HQ _ _ _ R7.out).out.mono ?_
                     rintro e w11 ⟨A8, c8, rfl, ho8, hb8⟩
                     have B11 := Lib.hid (B10.out.trans (hb8.mono B10.out.size))
                     have O8 := Lib.hid (ho8.mono B10.out.size (Nat.le_refl _))
                     obtain ⟨kd1, kd2, kd3, fd3, _⟩ := F0.out.below B11.out
                     clear ho8 hb8))
              have hres := cell_set (v := .slice A8 lq c8) kd3
              have M8 := Lib.hid (show OwnM w11 w0.heap.size w11.heap.size A8 lq c8 fq from ⟨O8.out, O8.out.lt⟩)
              go_wp2_with fail
              refine bodyPost_ret (v := .tuple #[.agg #[.slice A8 lq c8], .int .i64 0]) (by simp [results, Try.results20, go_sem, hres]) rfl ?_
              exact RetMC.mk (by rw [HV.out]; exact HLq.out) (by rw [HV.out]) (by rw [HV.out]) Hb0.out B11.out (by rw [HZ.out, ← Hbe.out]; omega) M8.out (Nat.le_refl _)
            · have hin : inB (u1 + u2) 0 11 = false := by simp [inB]; omega
              rw [hin]
              have HV := Lib.hid (HB.out (fun h => hsum h.2))
              have hres := cell_set (v := .slice none 0 0) k3
              clear hin
              go_wp2_with fail
              refine bodyPost_ret (v := .tuple #[.agg #[.slice none 0 0], .int .i64 3]) (by simp [results, Try.results20, go_sem, hres]) rfl ?_
              exact RetMC.bad (by rw [HV.out]; rfl) (by rw [HV.out]) (by rw [HV.out]) Hb0.out B6.out (by rw [HZ.out, ← Hbe.out]; omega)
          · have HV := Lib.hid (HB.out (fun h => hlen h.1))
            have hres := cell_set (v := .slice none 0 0) k3
            go_wp2_with fail
            refine bodyPost_ret (v := .tuple #[.agg #[.slice none 0 0], .int .i64 3]) (by simp [results, Try.results20, go_sem, hres]) rfl ?_
            exact RetMC.bad (by rw [HV.out]; rfl) (by rw [HV.out]) (by rw [HV.out]) Hb0.out B6.out (by rw [HZ.out, ← Hbe.out]; omega)

set_option maxRecDepth 100000 in
set_option maxHeartbeats 1000000 in
theorem sMultiplyLambda (A1 A2 : Option Addr) (n1 c1 n2 c2 : Nat) (xss yss : List (List Int)) (w : World) (h1 : RdL w w.heap.size A1 n1 c1 xss) (h2 : RdL w w.heap.size A2 n2 c2 yss) (hn1 : n1 ≤ 2000000) (hn2 : n2 ≤ 2000000) (ht1 : totalL xss ≤ 2000000) (ht2 : totalL yss ≤ 2000000) :
    Calls Try.prog 19 #[.agg #[.slice A1 n1 c1], .agg #[.slice A2 n2 c2]] w (RetMC (mulO xss yss).2.length (mulO xss yss).2 (mulO xss yss).1 w) := by
  obtain ⟨w0, b, hw0, hbe, hb0, hz0, hF⟩ := alloc3 w (.slice A1 n1 c1) (.slice A2 n2 c2) (.slice none 0 0) 27 27 27
  have HE1 := Lib.hid (emp_of h1.len)
  have HE2 := Lib.hid (emp_of h2.len)
  have HX1 := Lib.hid (fun (x : List Int) (hx : x ∈ xss) => Nat.le_trans (len_le_tot hx) ht1)
  have HX2 := Lib.hid (fun (x : List Int) (hx : x ∈ yss) => Nat.le_trans (len_le_tot hx) ht2)
  have HL1 := Lib.hid h1.len
  have HL2 := Lib.hid h2.len
  have H1 := Lib.hid ((h1.below hb0).mono hb0.size); clear h1
  have H2 := Lib.hid ((h2.below hb0).mono hb0.size); clear h2
  have Hw := Lib.hid hw0; clear hw0
  have Hbe := Lib.hid hbe; clear hbe
  have Hb0 := Lib.hid hb0; clear hb0
  have HZ := Lib.hid hz0; clear hz0
  have F0 := Lib.hid hF; clear hF
  have B0 := Lib.hid (Below.refl w0.heap.size w0)
  obtain ⟨r1, hr1⟩ : ∃ r, r = isLB xss := ⟨_, rfl⟩
  have HR1 := Lib.hid hr1; clear hr1
  obtain ⟨r2, hr2⟩ : ∃ r, r = isLB yss := ⟨_, rfl⟩
  have HR2 := Lib.hid hr2; clear hr2
  go_enter Try.func19, Try.ntmps19
  go_wp2_with fail
  rw [← Hw.out, ← Hbe.out]
  obtain ⟨k1, k2, k3, f3, _⟩ := F0.out
  refine (l16Is_any A1 n1 c1 _ xss _ (H1.out.below B0.out) (by omega) (by omega)).mono ?_
  rintro e w1 ⟨rfl, q1, hq1⟩
  have hb1 := below_drewN (Below.refl w0.heap.size w0) q1
  rw [← hq1] at hb1
  clear hq1
  have B1 := Lib.hid (B0.out.trans (hb1.mono B0.out.size)); clear hb1
  obtain ⟨k1, k2, k3, f3, _⟩ := F0.out.below B1.out
  rw [← HR1.out]
  cases r1
  · have HV := Lib.hid (mulO_bad1 (b := yss) HR1.out.symm)
    have hres := cell_set (v := .slice none 0 0) k3
    go_wp2_with fail
    refine bodyPost_ret (v := .tuple #[.agg #[.slice none 0 0], .int .i64 1]) (by simp [results, Try.results19, go_sem, hres]) rfl ?_
    exact RetMC.bad (by rw [HV.out]; rfl) (by rw [HV.out]) (by rw [HV.out]) Hb0.out B1.out (by rw [HZ.out, ← Hbe.out]; omega)
  · go_wp2_with fail
    refine (l16Is_any A2 n2 c2 _ yss _ (H2.out.below B1.out) (by omega) (by omega)).mono ?_
    rintro e w2 ⟨rfl, q2, hq2⟩
    have hb2 := below_drewN (Below.refl w1.heap.size w1) q2
    rw [← hq2] at hb2
    clear hq2
    have B2 := Lib.hid (B1.out.trans (hb2.mono B1.out.size)); clear hb2
    obtain ⟨k1, k2, k3, f3, _⟩ := F0.out.below B2.out
    rw [← HR2.out]
    cases r2
    · have HV := Lib.hid (mulO_bad2 (a := xss) HR2.out.symm)
      have hres := cell_set (v := .slice none 0 0) k3
      go_wp2_with fail
      refine bodyPost_ret (v := .tuple #[.agg #[.slice none 0 0], .int .i64 1]) (by simp [results, Try.results19, go_sem, hres]) rfl ?_
      exact RetMC.bad (by rw [HV.out]; rfl) (by rw [HV.out]) (by rw [HV.out]) Hb0.out B2.out (by rw [HZ.out, ← Hbe.out]; omega)
    · clear k1 k2 k3 f3
      obtain ⟨k1, k2, k3, f3, _⟩ := F0.out.below B2.out
      have hn1 := isLB_len HR1.out.symm
      have hn2 := isLB_len HR2.out.symm
      rw [HL1.out] at hn1
      rw [HL2.out] at hn2
      rcases Nat.eq_zero_or_pos n1 with rfl | hz1
      · have HV := Lib.hid (mulO_zero HR1.out.symm HR2.out.symm (by rw [HE1.out]; rfl))
        have hres := cell_set (v := .slice none 0 0) k3
        go_wp2_with fail
        refine bodyPost_ret (v := .tuple #[.agg #[.slice none 0 0], .int .i64 0]) (by simp [results, Try.results19, go_sem, hres]) rfl ?_
        exact RetMC.bad (by rw [HV.out]; rfl) (by rw [HV.out]) (by rw [HV.out]) Hb0.out B2.out (by rw [HZ.out, ← Hbe.out]; omega)
      · have hp1 : ((n1 : Int) == 0) = false := by simp; omega
        rcases Nat.eq_zero_or_pos n2 with rfl | hz2
        · have HV := Lib.hid (mulO_zero HR1.out.symm HR2.out.symm (by rw [HE2.out]; simp))
          have hres := cell_set (v := .slice none 0 0) k3
          go_wp2_with fail
          refine bodyPost_ret (v := .tuple #[.agg #[.slice none 0 0], .int .i64 0]) (by simp [results, Try.results19, go_sem, hres]) rfl ?_
          exact RetMC.bad (by rw [HV.out]; rfl) (by rw [HV.out]) (by rw [HV.out]) Hb0.out B2.out (by rw [HZ.out, ← Hbe.out]; omega)
        · have hp2 : ((n2 : Int) == 0) = false := by simp; omega
          have HN : Hid ((xss.isEmpty || yss.isEmpty) = false) := Lib.hid (by rw [HE1.out, HE2.out]; simp; omega)
          have HB := Lib.hid (mulO_lim HR1.out.symm HR2.out.symm HN.out)
          have HG := Lib.hid (mulO_ok HR1.out.symm HR2.out.symm HN.out)
          have Hm1 := Lib.hid (isLB_mul HR1.out.symm HR2.out.symm)
          have hh1 := isLB_head HR1.out.symm
          have hh2 := isLB_head HR2.out.symm
          obtain ⟨ad3, A3, n3, c3, x0, rfl, _, hx0, hc3, hr3⟩ := (H1.out.below B2.out).at_ hz1
          obtain ⟨ad4, A4, n4, c4, y0, rfl, _, hy0, hc4, hr4⟩ := (H2.out.below B2.out).at_ hz2
          have hh3 : xss.headD [] = x0 := by
            have := hx0.out
            cases xss with
            | nil => simp at this
            | cons y ys => simpa using this
          have hh4 : yss.headD [] = y0 := by
            have := hy0.out
            cases yss with
            | nil => simp at this
            | cons y ys => simpa using this
          rw [hh3, hh4, hr3.len, hr4.len] at HB HG Hm1
          rw [hh3, hr3.len] at hh1
          rw [hh4, hr4.len] at hh2
          have hc33 : w2.cell? ad3 = some (.slice A3 n3 c3) := by simpa [Addr.add] using hc3
          have hc44 : w2.cell? ad4 = some (.slice A4 n4 c4) := by simpa [Addr.add] using hc4
          have Hs3 := fun W : Nat => Lib.hid (show Calls Try.prog 33 #[.slice A3 n3 c3] (w2.drewN W) (fun e w'' => e = .returned (.int .i64 (psT 0 x0)) ∧ ∃ m, w'' = (w2.drewN W).drewN m) from (stem_any A3 n3 c3 _ x0 (w2.drewN W) (hr3.drewN W) (by omega)).mono fun e w' h => ⟨h.1, 0, h.2⟩)
          have Hs4 := fun W : Nat => Lib.hid (show Calls Try.prog 33 #[.slice A4 n4 c4] (w2.drewN W) (fun e w'' => e = .returned (.int .i64 (psT 0 y0)) ∧ ∃ m, w'' = (w2.drewN W).drewN m) from (stem_any A4 n4 c4 _ y0 (w2.drewN W) (hr4.drewN W) (by omega)).mono fun e w' h => ⟨h.1, 0, h.2⟩)
          obtain ⟨u1, hu1⟩ : ∃ u, u = psT 0 x0 := ⟨_, rfl⟩
          obtain ⟨u2, hu2⟩ : ∃ u, u = psT 0 y0 := ⟨_, rfl⟩
          rw [← hu1] at hh1 Hs3 HB HG Hm1
          rw [← hu2] at hh2 Hs4 HB HG Hm1
          obtain ⟨hg1, hg3, hg4⟩ := hh1
          obtain ⟨hg2, hg5, hg6⟩ := hh2
          have hq1 : (0 : Int) < (n1 : Int) := by omega
          have hq2 : (0 : Int) < (n2 : Int) := by omega
          clear hc3 hc4 hr3 hr4 hh3 hh4 hx0 hy0 hu1 hu2
          by_cases hlen : n3 + n4 ≤ 7
          · have hd : decide ((7 : Int) < (n3 : Int) + (n4 : Int)) = false := by simp; omega
            by_cases hst : u1 + u2 ≤ 11
            · have hd2 : decide ((11 : Int) < u1 + u2) = false := by simp; omega
              have HV := Lib.hid (HG.out ⟨hlen, hst⟩)
              have Hm := Lib.hid (Hm1.out hlen hst)
              have HFb := Lib.hid (formL_bounds (prods_okW Hm.out))
              clear HB HG Hm1
              go_wp2_with fail
              go_quiet (first | (go_at_call_of 33 A3; first | exact Calls.quiet_of ((Hs3 _).out) | exact quiet_add ((Hs3 _).out)) | (go_at_call_of 33 A4; first | exact Calls.quiet_of ((Hs4 _).out) | exact quiet_add ((Hs4 _).out)))
              rename_i nq
              clear k1 k2 k3 f3 Hs3 Hs4 hc33 hc44
              have B3 := Lib.hid (below_drewN B2.out nq)
              obtain ⟨k1, k2, k3, f3, _⟩ := F0.out.below B3.out
              go_wp2_with fail
              have hpl := Lib.hid (show (oddL (prods xss yss)).length ≤ 75582 from asc_len (oddL_asc _) fun z hz => prods_okW Hm.out z (oddL_mem hz))
              have hRd := fun (W : World) (A : Option Addr) (c : Nat) (h : RdL W W.heap.size A (oddL (prods xss yss)).length c (oddL (prods xss yss))) => Lib.hid (reduce_any A _ c _ _ W h (Nat.le_refl _) (oddL_asc _) (fun z hz => prods_okW Hm.out z (oddL_mem hz)))
              have HFO : Hid (formL (oddL (prods xss yss)) = formL (prods xss yss)) := Lib.hid (formL_odd _)
              rw [HFO.out] at hRd
              unfold RetRed at hRd
              obtain ⟨y, hy⟩ : ∃ y, y = formL (prods xss yss) := ⟨_, rfl⟩
              rw [← hy] at hRd HV HFb
              clear hy HFO
              obtain ⟨l, hl⟩ : ∃ l, l = y.length := ⟨_, rfl⟩
              have HL := Lib.hid hl
              rw [← hl] at hRd HFb
              clear hl
              have hlb := HFb.out.1
              refine (times_any (some ad3) (some ad4) n1 c1 n2 c2 _ _ xss yss _ (H1.out.below B3.out) (H2.out.below B3.out) B3.out.size B3.out.size (by omega) (by omega) Hm.out (fun x hx => (isLB_okW HR1.out.symm x hx).1) (fun x hx => (isLB_okW HR2.out.symm x hx).1)).mono ?_
              rintro e w4 ⟨A5, c5, rfl, ho5, hb5⟩
              have B4 := Lib.hid (B3.out.trans (hb5.mono B3.out.size))
              have O5 := Lib.hid (ho5.mono B3.out.size (Nat.le_refl _))
              have R5 := Lib.hid ho5.rd
              clear ho5 hb5
              obtain ⟨k1, k2, k3, f3, _⟩ := F0.out.below B4.out
              obtain ⟨p, hp⟩ : ∃ p, p = oddL (prods xss yss) := ⟨_, rfl⟩
              rw [← hp] at O5 R5 hRd hpl ⊢
              clear hp
              obtain ⟨lp, hlp⟩ : ∃ l, l = p.length := ⟨_, rfl⟩
              have HLp := Lib.hid hlp
              rw [← hlp] at O5 R5 hRd hpl ⊢
              have hlpb := hpl.out
              clear hlp
              go_wp2_with fail
              refine ((hRd _ _ _ R5.out).out).mono ?_
              rintro e w5 ⟨A6, c6, rfl, hr6, ho6, hb6⟩
              have B5 := Lib.hid (B4.out.trans (hb6.mono B4.out.size))
              have M6 : Hid (OwnM w5 w0.heap.size w5.heap.size A6 l c6 y) := Lib.hid (by
                rcases ho6 with ho6 | ⟨rfl, rfl, rfl, rfl⟩
                · have := ho6.mono B4.out.size (Nat.le_refl _)
                  exact ⟨this, this.lt⟩
                · have := (O5.out.below hb6).mono (Nat.le_refl _) hb6.size
                  exact ⟨this, this.lt⟩)
              clear ho6 hb6 hr6
              obtain ⟨k1, k2, k3, f3, _⟩ := F0.out.below B5.out
              have hres := cell_set (v := .slice A6 l c6) k3
              go_wp2_with fail
              refine bodyPost_ret (v := .tuple #[.agg #[.slice A6 l c6], .int .i64 0]) (by simp [results, Try.results19, go_sem, hres]) rfl ?_
              exact RetMC.mk (by rw [HV.out]; exact HL.out) (by rw [HV.out]) (by rw [HV.out]) Hb0.out B5.out (by rw [HZ.out, ← Hbe.out]; omega) M6.out (Nat.le_refl _)
            · have hd2 : decide ((11 : Int) < u1 + u2) = true := by simp; omega
              have HV := Lib.hid (HB.out (fun h => hst h.2))
              clear HB HG Hm1
              go_wp2_with fail
              go_quiet (first | (go_at_call_of 33 A3; first | exact Calls.quiet_of ((Hs3 _).out) | exact quiet_add ((Hs3 _).out)) | (go_at_call_of 33 A4; first | exact Calls.quiet_of ((Hs4 _).out) | exact quiet_add ((Hs4 _).out)))
              rename_i nq
              clear k1 k2 k3 f3 Hs3 Hs4 hc33 hc44
              have B3 := Lib.hid (below_drewN B2.out nq)
              obtain ⟨k1, k2, k3, f3, _⟩ := F0.out.below B3.out
              have hres := cell_set (v := .slice none 0 0) k3
              go_wp2_with fail
              refine bodyPost_ret (v := .tuple #[.agg #[.slice none 0 0], .int .i64 3]) (by simp [results, Try.results19, go_sem, hres]) rfl ?_
              exact RetMC.bad (by rw [HV.out]; rfl) (by rw [HV.out]) (by rw [HV.out]) Hb0.out B3.out (by rw [HZ.out, ← Hbe.out]; omega)
          · have hd : decide ((7 : Int) < (n3 : Int) + (n4 : Int)) = true := by simp; omega
            have HV := Lib.hid (HB.out (fun h => hlen h.1))
            clear HB HG Hm1
            go_wp2_with fail
            go_quiet (fail)
            rename_i nq
            clear k1 k2 k3 f3 Hs3 Hs4 hc33 hc44
            have B3 := Lib.hid (below_drewN B2.out nq)
            obtain ⟨k1, k2, k3, f3, _⟩ := F0.out.below B3.out
            have hres := cell_set (v := .slice none 0 0) k3
            go_wp2_with fail
            refine bodyPost_ret (v := .tuple #[.agg #[.slice none 0 0], .int .i64 3]) (by simp [results, Try.results19, go_sem, hres]) rfl ?_
            exact RetMC.bad (by rw [HV.out]; rfl) (by rw [HV.out]) (by rw [HV.out]) Hb0.out B3.out (by rw [HZ.out, ← Hbe.out]; omega)
end Go.Proofs.Ythaokhjkibbplaa
