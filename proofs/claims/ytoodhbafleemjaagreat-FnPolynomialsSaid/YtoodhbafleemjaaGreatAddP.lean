/- impl.AddPolys. -/
import Derived.Test.YtoodhbafleemjaaGreatPlyA
import Derived.Lib.QuietBelow
namespace Go.Proofs.YtoodhbafleemjaaGreat
open Go.RowKit
set_option linter.unusedVariables false

set_option maxRecDepth 100000 in
set_option maxHeartbeats 1000000 in
theorem iAddPolys (v u : Int) (A1 A2 : Option Addr) (n1 c1 n2 c2 : Nat) (xss yss : List (List Int)) (w : World) (h1 : RdL w w.heap.size A1 n1 c1 xss) (h2 : RdL w w.heap.size A2 n2 c2 yss) (hn1 : n1 ≤ 2000000) (hn2 : n2 ≤ 2000000) (ht1 : totalL xss ≤ 2000000) (ht2 : totalL yss ≤ 2000000) :
    Calls Tryz.prog 15 #[.agg #[.int .i64 v, .slice A1 n1 c1], .agg #[.int .i64 u, .slice A2 n2 c2]] w (RetPl (adpO v xss u yss) w) := by
  obtain ⟨w0, b, hw0, hbe, hb0, hz0, hF⟩ := start222 w (.int .i64 v) (.slice A1 n1 c1) (.int .i64 u) (.slice A2 n2 c2) (.int .i64 0) (.slice none 0 0) 26 26 26
  have HL1 := Lib.hid h1.len
  have HL2 := Lib.hid h2.len
  have H1 := Lib.hid (rdL_here h1 hb0); clear h1
  have H2 := Lib.hid (rdL_here h2 hb0); clear h2
  have Hw := Lib.hid hw0; clear hw0
  have Hbe := Lib.hid hbe; clear hbe
  have Hb0 := Lib.hid hb0; clear hb0
  have HZ := Lib.hid hz0; clear hz0
  have F0 := Lib.hid hF; clear hF
  have X0 := Lib.hid (Below.refl w0.heap.size w0)
  obtain ⟨r1, hr1⟩ : ∃ r, r = polB v xss := ⟨_, rfl⟩
  have HR1 := Lib.hid hr1; clear hr1
  obtain ⟨r2, hr2⟩ : ∃ r, r = polB u yss := ⟨_, rfl⟩
  have HR2 := Lib.hid hr2; clear hr2
  obtain ⟨o, ho⟩ : ∃ o, o = adpO v xss u yss := ⟨_, rfl⟩
  have HO := Lib.hid ho
  rw [← ho]
  clear ho
  go_enter Tryz.func15, Tryz.ntmps15
  go_wp2_with fail
  rw [← Hw.out, ← Hbe.out]
  have k0 := (F0.out.below X0.out).at_ (b := b) (o := 0) (V := .int .i64 v) (by simp)
  have k1 := (F0.out.below X0.out).at_ (b := b) (o := 1) (V := .slice A1 n1 c1) (by simp)
  have k2 := (F0.out.below X0.out).at_ (b := b + 1) (o := 0) (V := .int .i64 u) (by simp)
  have k3 := (F0.out.below X0.out).at_ (b := b + 1) (o := 1) (V := .slice A2 n2 c2) (by simp)
  refine (iIsPoly v A1 n1 c1 xss _ H1.out hn1 ht1).mono ?_
  rintro e w1 ⟨rfl, hb1⟩
  rw [← HR1.out]
  have X1 := Lib.hid hb1; clear hb1 k0 k1 k2 k3
  have k0 := (F0.out.below X1.out).at_ (b := b) (o := 0) (V := .int .i64 v) (by simp)
  have k1 := (F0.out.below X1.out).at_ (b := b) (o := 1) (V := .slice A1 n1 c1) (by simp)
  have k2 := (F0.out.below X1.out).at_ (b := b + 1) (o := 0) (V := .int .i64 u) (by simp)
  have k3 := (F0.out.below X1.out).at_ (b := b + 1) (o := 1) (V := .slice A2 n2 c2) (by simp)
  cases r1
  · have HV := Lib.hid (HO.out.trans (adpO_bad1 HR1.out.symm))
    have q0 := (F0.out.below X1.out).at_ (b := b + 1 + 1) (o := 0) (V := .int .i64 0) (by simp)
    have q1 := (F0.out.below X1.out).at_ (b := b + 1 + 1) (o := 1) (V := .slice none 0 0) (by simp)
    have f0 := (F0.out.below X1.out).fr (b := b + 1 + 1) (o := 0) (V := .int .i64 0) (by simp)
    have f1 := (F0.out.below X1.out).fr (b := b + 1 + 1) (o := 1) (V := .slice none 0 0) (by simp)
    have hres := cells_end q0 q1 (.int .i64 0) (.slice none 0 0)
    go_wp2_with fail
    refine bodyPost_ret (v := .tuple #[.agg #[.int .i64 0, .slice none 0 0], .int .i64 1]) (by simp [results, Tryz.results15, go_sem, hres.1, hres.2]) rfl ?_
    exact RetNC.bad (by rw [HV.out]) (by rw [HV.out]) (by rw [HV.out]) (Hb0.out.trans (X1.out.mono Hb0.out.size)) (by rw [Hbe.out]; omega)
  · go_wp2_with fail
    refine (iIsPoly u A2 n2 c2 yss _ (rdL_here H2.out X1.out) hn2 ht2).mono ?_
    rintro e w2 ⟨rfl, hb2⟩
    rw [← HR2.out]
    have X2 := Lib.hid (X1.out.trans (hb2.mono X1.out.size)); clear hb2 k0 k1 k2 k3
    have k0 := (F0.out.below X2.out).at_ (b := b) (o := 0) (V := .int .i64 v) (by simp)
    have k1 := (F0.out.below X2.out).at_ (b := b) (o := 1) (V := .slice A1 n1 c1) (by simp)
    have k2 := (F0.out.below X2.out).at_ (b := b + 1) (o := 0) (V := .int .i64 u) (by simp)
    have k3 := (F0.out.below X2.out).at_ (b := b + 1) (o := 1) (V := .slice A2 n2 c2) (by simp)
    cases r2
    · have HV := Lib.hid (HO.out.trans (adpO_bad2 HR2.out.symm))
      have q0 := (F0.out.below X2.out).at_ (b := b + 1 + 1) (o := 0) (V := .int .i64 0) (by simp)
      have q1 := (F0.out.below X2.out).at_ (b := b + 1 + 1) (o := 1) (V := .slice none 0 0) (by simp)
      have f0 := (F0.out.below X2.out).fr (b := b + 1 + 1) (o := 0) (V := .int .i64 0) (by simp)
      have f1 := (F0.out.below X2.out).fr (b := b + 1 + 1) (o := 1) (V := .slice none 0 0) (by simp)
      have hres := cells_end q0 q1 (.int .i64 0) (.slice none 0 0)
      go_wp2_with fail
      refine bodyPost_ret (v := .tuple #[.agg #[.int .i64 0, .slice none 0 0], .int .i64 1]) (by simp [results, Tryz.results15, go_sem, hres.1, hres.2]) rfl ?_
      exact RetNC.bad (by rw [HV.out]) (by rw [HV.out]) (by rw [HV.out]) (Hb0.out.trans (X2.out.mono Hb0.out.size)) (by rw [Hbe.out]; omega)
    · have HP1 := Lib.hid (polF_of HR1.out.symm)
      have HP2 := Lib.hid (polF_of HR2.out.symm)
      have Z1 := fun (W : World) (hB : Below w2.heap.size w2 W) => Lib.hid (isZeroP_any v A1 n1 c1 W hn1)
      have Z2 := fun (W : World) (hB : Below w2.heap.size w2 W) => Lib.hid (isZeroP_any u A2 n2 c2 W hn2)
      have D1 := fun (W : World) (hB : Below w2.heap.size w2 W) => Lib.hid (degreeP_any v A1 n1 c1 _ xss W (rdL_here H1.out (X2.out.trans (hB.mono X2.out.size))) (Nat.le_refl _) hn1 ht1)
      have D2 := fun (W : World) (hB : Below w2.heap.size w2 W) => Lib.hid (degreeP_any u A2 n2 c2 _ yss W (rdL_here H2.out (X2.out.trans (hB.mono X2.out.size))) (Nat.le_refl _) hn2 ht2)
      obtain ⟨d1, hd1⟩ : ∃ d, d = degL xss := ⟨_, rfl⟩
      obtain ⟨d2, hd2⟩ : ∃ d, d = degL yss := ⟨_, rfl⟩
      rw [← hd1] at D1
      rw [← hd2] at D2
      have E1 := Lib.hid hd1
      have E2 := Lib.hid hd2
      clear hd1 hd2
      have hcase : Hid (v ≠ u) ∨ (Hid (v = u) ∧ Hid (0 < n1) ∧ Hid (0 < n2) ∧ Hid (d1 ≠ d2)) ∨ (Hid (v = u) ∧ Hid (n1 = 0)) ∨ (Hid (v = u) ∧ Hid (0 < n1) ∧ Hid (n2 = 0)) ∨ (Hid (v = u) ∧ Hid (0 < n1) ∧ Hid (0 < n2) ∧ Hid (d1 = d2)) := by
        by_cases a1 : v = u
        · by_cases a2 : n1 = 0
          · exact .inr (.inr (.inl ⟨Lib.hid a1, Lib.hid a2⟩))
          · by_cases a3 : n2 = 0
            · exact .inr (.inr (.inr (.inl ⟨Lib.hid a1, Lib.hid (by omega), Lib.hid a3⟩)))
            · by_cases a4 : d1 = d2
              · exact .inr (.inr (.inr (.inr ⟨Lib.hid a1, Lib.hid (by omega), Lib.hid (by omega), Lib.hid a4⟩)))
              · exact .inr (.inl ⟨Lib.hid a1, Lib.hid (by omega), Lib.hid (by omega), Lib.hid a4⟩)
        · exact .inl (Lib.hid a1)
      go_wp2_with fail
      have g0 := cell_regrown k0
      have g1 := cell_regrown k1
      have g2 := cell_regrown k2
      have g3 := cell_regrown k3
      rcases hcase with a1 | ⟨a1, a2, a3, a4⟩ | hcase
      · have hne := a1.out
        have hne1 : (v == u) = false := by simpa using hne
        have hne2 : (v != u) = true := by simpa using hne
        clear hne
        have HV := Lib.hid (HO.out.trans (adpO_range HR1.out.symm HR2.out.symm (.inl a1.out)))
        refine wp_region_quiet_below (by kernel_rfl) (by kernel_rfl) ?_
        repeat (go_big_quiet_step (fail))
        refine wpQuiet_nil ?_
        intro _ hw'
        obtain ⟨⟨dq, osq⟩, hw''⟩ := hw'
        subst hw''
        have hb3 := below_regrown w2 dq osq
        obtain ⟨w3, hwq⟩ : ∃ W, W = Sort.grow (redrawn w2 dq) osq := ⟨_, rfl⟩
        rw [← hwq] at hb3 ⊢
        clear hwq
        have X3 := Lib.hid (X2.out.trans (hb3.mono X2.out.size))
        clear g0 g1 g2 g3 k0 k1 k2 k3 hb3
        have q0 := (F0.out.below X3.out).at_ (b := b + 1 + 1) (o := 0) (V := .int .i64 0) (by simp)
        have q1 := (F0.out.below X3.out).at_ (b := b + 1 + 1) (o := 1) (V := .slice none 0 0) (by simp)
        have f0 := (F0.out.below X3.out).fr (b := b + 1 + 1) (o := 0) (V := .int .i64 0) (by simp)
        have f1 := (F0.out.below X3.out).fr (b := b + 1 + 1) (o := 1) (V := .slice none 0 0) (by simp)
        have hres := cells_end q0 q1 (.int .i64 0) (.slice none 0 0)
        go_wp2_with fail
        refine bodyPost_ret (v := .tuple #[.agg #[.int .i64 0, .slice none 0 0], .int .i64 2]) (by simp [results, Tryz.results15, go_sem, hres.1, hres.2]) rfl ?_
        exact RetNC.bad (by rw [HV.out]) (by rw [HV.out]) (by rw [HV.out]) (Hb0.out.trans (X3.out.mono Hb0.out.size)) (by rw [Hbe.out]; omega)
      · have hne1 : (v == u) = true := by simpa using a1.out
        have hne2 : (v != u) = false := by simpa using a1.out
        have hdd := a4.out
        have hne3 : (d1 == d2) = false := by simpa using hdd
        have hne4 : (d1 != d2) = true := by simpa using hdd
        clear hdd
        have HV := Lib.hid (HO.out.trans (adpO_range HR1.out.symm HR2.out.symm (.inr ⟨by rw [HL1.out]; exact a2.out, by rw [HL2.out]; exact a3.out, by rw [← E1.out, ← E2.out]; exact a4.out⟩)))
        have Y1 := fun (W : World) (hB : Below w2.heap.size w2 W) => Lib.hid (isZeroP_no v A1 n1 c1 W a2.out hn1)
        have Y2 := fun (W : World) (hB : Below w2.heap.size w2 W) => Lib.hid (isZeroP_no u A2 n2 c2 W a3.out hn2)
        refine wp_region_quiet_below (by kernel_rfl) (by kernel_rfl) ?_
        repeat (go_big_quiet_step ((first | (go_at_call_of 46 A1; exact Calls.regrown_of ((Y1 _ (below_regrown _ _ _)).out)) | (go_at_call_of 46 A2; exact Calls.regrown_of ((Y2 _ (below_regrown _ _ _)).out)) | (go_at_call_of 47 A1; exact Calls.regrown_of ((D1 _ (below_regrown _ _ _)).out)) | (go_at_call_of 47 A2; exact Calls.regrown_of ((D2 _ (below_regrown _ _ _)).out)))))
        refine wpQuiet_nil ?_
        intro _ hw'
        obtain ⟨⟨dq, osq⟩, hw''⟩ := hw'
        subst hw''
        have hb3 := below_regrown w2 dq osq
        obtain ⟨w3, hwq⟩ : ∃ W, W = Sort.grow (redrawn w2 dq) osq := ⟨_, rfl⟩
        rw [← hwq] at hb3 ⊢
        clear hwq
        have X3 := Lib.hid (X2.out.trans (hb3.mono X2.out.size))
        clear g0 g1 g2 g3 k0 k1 k2 k3 hb3 D1 D2 Z1 Z2 Y1 Y2 hne1 hne2 hne3 hne4
        have q0 := (F0.out.below X3.out).at_ (b := b + 1 + 1) (o := 0) (V := .int .i64 0) (by simp)
        have q1 := (F0.out.below X3.out).at_ (b := b + 1 + 1) (o := 1) (V := .slice none 0 0) (by simp)
        have f0 := (F0.out.below X3.out).fr (b := b + 1 + 1) (o := 0) (V := .int .i64 0) (by simp)
        have f1 := (F0.out.below X3.out).fr (b := b + 1 + 1) (o := 1) (V := .slice none 0 0) (by simp)
        have hres := cells_end q0 q1 (.int .i64 0) (.slice none 0 0)
        go_wp2_with fail
        refine bodyPost_ret (v := .tuple #[.agg #[.int .i64 0, .slice none 0 0], .int .i64 2]) (by simp [results, Tryz.results15, go_sem, hres.1, hres.2]) rfl ?_
        exact RetNC.bad (by rw [HV.out]) (by rw [HV.out]) (by rw [HV.out]) (Hb0.out.trans (X3.out.mono Hb0.out.size)) (by rw [Hbe.out]; omega)
      · have hvu : v = u := by rcases hcase with ⟨a, _⟩ | ⟨a, _⟩ | ⟨a, _⟩ <;> exact a.out
        have hne1 : (v == u) = true := by simpa using hvu
        have hne2 : (v != u) = false := by simpa using hvu
        have HV := Lib.hid (HO.out.trans (adpO_ok HR1.out.symm HR2.out.symm hvu (by
          rcases hcase with ⟨_, a⟩ | ⟨_, _, a⟩ | ⟨_, _, _, a⟩
          · exact .inl (by rw [HL1.out]; exact a.out)
          · exact .inr (.inl (by rw [HL2.out]; exact a.out))
          · exact .inr (.inr (by rw [← E1.out, ← E2.out]; exact a.out)))))
        have HVU := Lib.hid hvu
        clear hvu
        rcases hcase with ⟨a1, a2⟩ | ⟨a1, a2, a3⟩ | ⟨a1, a2, a3, a4⟩
        have Y1 := fun (W : World) (hB : Below w2.heap.size w2 W) => Lib.hid (show Calls Tryz.prog 46 #[.agg #[.int .i64 v, .slice A1 n1 c1]] W (RetBb true W) from by
          have := isZeroP_any v A1 n1 c1 W hn1
          rwa [decide_eq_true a2.out] at this)
        refine wp_region_quiet_below (by kernel_rfl) (by kernel_rfl) ?_
        repeat (go_big_quiet_step ((go_at_call_of 46 A1; exact Calls.regrown_of ((Y1 _ (below_regrown _ _ _)).out))))
        refine wpQuiet_nil ?_
        intro _ hw'
        obtain ⟨⟨dq, osq⟩, hw''⟩ := hw'
        subst hw''
        have hb3 := below_regrown w2 dq osq
        obtain ⟨w3, hwq⟩ : ∃ W, W = Sort.grow (redrawn w2 dq) osq := ⟨_, rfl⟩
        rw [← hwq] at hb3 ⊢
        clear hwq
        clear Y1
        rotate_left
        have Y1 := fun (W : World) (hB : Below w2.heap.size w2 W) => Lib.hid (isZeroP_no v A1 n1 c1 W a2.out hn1)
        have Y2 := fun (W : World) (hB : Below w2.heap.size w2 W) => Lib.hid (show Calls Tryz.prog 46 #[.agg #[.int .i64 u, .slice A2 n2 c2]] W (RetBb true W) from by
          have := isZeroP_any u A2 n2 c2 W hn2
          rwa [decide_eq_true a3.out] at this)
        refine wp_region_quiet_below (by kernel_rfl) (by kernel_rfl) ?_
        repeat (go_big_quiet_step ((first | (go_at_call_of 46 A1; exact Calls.regrown_of ((Y1 _ (below_regrown _ _ _)).out)) | (go_at_call_of 46 A2; exact Calls.regrown_of ((Y2 _ (below_regrown _ _ _)).out)))))
        refine wpQuiet_nil ?_
        intro _ hw'
        obtain ⟨⟨dq, osq⟩, hw''⟩ := hw'
        subst hw''
        have hb3 := below_regrown w2 dq osq
        obtain ⟨w3, hwq⟩ : ∃ W, W = Sort.grow (redrawn w2 dq) osq := ⟨_, rfl⟩
        rw [← hwq] at hb3 ⊢
        clear hwq
        clear Y1 Y2
        rotate_left
        have Y1 := fun (W : World) (hB : Below w2.heap.size w2 W) => Lib.hid (isZeroP_no v A1 n1 c1 W a2.out hn1)
        have Y2 := fun (W : World) (hB : Below w2.heap.size w2 W) => Lib.hid (isZeroP_no u A2 n2 c2 W a3.out hn2)
        have hne3 : (d1 == d2) = true := by simpa using a4.out
        have hne4 : (d1 != d2) = false := by simpa using a4.out
        refine wp_region_quiet_below (by kernel_rfl) (by kernel_rfl) ?_
        repeat (go_big_quiet_step ((first | (go_at_call_of 46 A1; exact Calls.regrown_of ((Y1 _ (below_regrown _ _ _)).out)) | (go_at_call_of 46 A2; exact Calls.regrown_of ((Y2 _ (below_regrown _ _ _)).out)) | (go_at_call_of 47 A1; exact Calls.regrown_of ((D1 _ (below_regrown _ _ _)).out)) | (go_at_call_of 47 A2; exact Calls.regrown_of ((D2 _ (below_regrown _ _ _)).out)))))
        refine wpQuiet_nil ?_
        intro _ hw'
        obtain ⟨⟨dq, osq⟩, hw''⟩ := hw'
        subst hw''
        have hb3 := below_regrown w2 dq osq
        obtain ⟨w3, hwq⟩ : ∃ W, W = Sort.grow (redrawn w2 dq) osq := ⟨_, rfl⟩
        rw [← hwq] at hb3 ⊢
        clear hwq
        clear Y1 Y2 hne3 hne4
        all_goals
          have X3 := Lib.hid (X2.out.trans (hb3.mono X2.out.size))
          clear g0 g1 g2 g3 k0 k1 k2 k3 hb3 D1 D2 Z1 Z2 hne1 hne2
          obtain ⟨k, hk⟩ : ∃ k : Nat, v = k := ⟨v.toNat, by have := HP1.out.lo; omega⟩
          have hk4 : k ≤ 4 := by have := HP1.out.hi; omega
          have M1 := Lib.hid (HP1.out.monos hk)
          have M2 := Lib.hid (HP2.out.monos (HVU.out.symm.trans hk))
          have l1 : xss.length ≤ 2000 := HP1.out.len
          have l2 : yss.length ≤ 2000 := HP2.out.len
          have L1 := Lib.hid l1
          have L2 := Lib.hid l2
          clear l1 l2
          subst hk
          have k0 := (F0.out.below X3.out).at_ (b := b) (o := 0) (V := .int .i64 k) (by simp)
          have k1 := (F0.out.below X3.out).at_ (b := b) (o := 1) (V := .slice A1 n1 c1) (by simp)
          go_wp2_with fail
          refine (polyOf_any A1 n1 c1 xss w3 (rdL_here H1.out X3.out) (fun x hx => (M1.out x hx).ten (by omega)) (by omega)).mono ?_
          rintro e w4 ⟨p, rfl, hp4, op4, hb4⟩
          have X4 := Lib.hid (X3.out.trans (hb4.mono X3.out.size))
          have P4 := Lib.hid op4
          have G4 := Lib.hid (Nat.le_trans X3.out.size hp4)
          clear op4 hb4 hp4 k0 k1
          have k2 := (F0.out.below X4.out).at_ (b := b + 1) (o := 0) (V := .int .i64 u) (by simp)
          have k3 := (F0.out.below X4.out).at_ (b := b + 1) (o := 1) (V := .slice A2 n2 c2) (by simp)
          go_wp2_with fail
          refine (polyOf_any A2 n2 c2 yss w4 (rdL_here H2.out X4.out) (fun x hx => (M2.out x hx).ten (by omega)) (by omega)).mono ?_
          rintro e w5 ⟨q, rfl, hp5, op5, hb5⟩
          have X5 := Lib.hid (X4.out.trans (hb5.mono X4.out.size))
          have P5 := Lib.hid (P4.out.below hb5)
          have Q5 := Lib.hid op5
          have hpq : p ≠ q := by have := P4.out.lt; omega
          have HPQ := Lib.hid hpq
          clear op5 hb5 hp5 hpq k2 k3
          go_wp2_with fail
          refine (plus_any p q (xss.map encP) (yss.map encP) w5 P5.out Q5.out HPQ.out (by rw [List.length_map, List.length_map]; have := L1.out; have := L2.out; omega)).mono ?_
          rintro e w6 ⟨rfl, op6, hg6⟩
          have X6 := Lib.hid (X5.out.trans (below_grownBy hg6 G4.out X5.out.size))
          have P6 : Hid (OwnP w6 p ((xss ++ yss).map encP)) := Lib.hid (by rw [List.map_append]; exact op6)
          clear op6 hg6
          have k0 := (F0.out.below X6.out).at_ (b := b) (o := 0) (V := .int .i64 k) (by simp)
          have k1 := (F0.out.below X6.out).at_ (b := b) (o := 1) (V := .slice A1 n1 c1) (by simp)
          have HT := told_any p k (xss ++ yss) w6 P6.out (fun x hx => (List.mem_append.1 hx).elim (M1.out x) (M2.out x)) (by omega) (by rw [List.length_append]; have := L1.out; have := L2.out; omega)
          rw [← HV.out] at HT
          have HT := Lib.hid HT
          go_wp2_with fail
          refine HT.out.mono ?_
          rintro e w7 ⟨A7, c7, rfl, om7, hb7⟩
          have X7 := Lib.hid (X6.out.trans (hb7.mono X6.out.size))
          have O7 := Lib.hid (om7.mono X6.out.size (Nat.le_refl _))
          clear om7 hb7 k0 k1 HT
          have q0 := (F0.out.below X7.out).at_ (b := b + 1 + 1) (o := 0) (V := .int .i64 0) (by simp)
          have q1 := (F0.out.below X7.out).at_ (b := b + 1 + 1) (o := 1) (V := .slice none 0 0) (by simp)
          have f0 := (F0.out.below X7.out).fr (b := b + 1 + 1) (o := 0) (V := .int .i64 0) (by simp)
          have f1 := (F0.out.below X7.out).fr (b := b + 1 + 1) (o := 1) (V := .slice none 0 0) (by simp)
          have hres := cells_end q0 q1 (.int .i64 o.1) (.slice A7 o.2.1.length c7)
          go_wp2_with fail
          refine bodyPost_ret (v := .tuple #[.agg #[.int .i64 o.1, .slice A7 o.2.1.length c7], .int .i64 o.2.2]) (by simp [results, Tryz.results15, go_sem, hres.1, hres.2]) rfl ?_
          exact RetNC.mk (V := w0.heap.size) rfl rfl rfl rfl (Hb0.out.trans (X7.out.mono Hb0.out.size)) (by rw [Hbe.out]; omega) (by rw [HZ.out]; omega) O7.out (Nat.le_refl _)
end Go.Proofs.YtoodhbafleemjaaGreat
