/- ActSquares on the program's side. -/
import Derived.Test.YtejlkobieohgfaaActP
import Derived.Lib.QuietBelow
namespace Go.Proofs.Ytejlkobieohgfaa
open Go.RowKit
set_option linter.unusedVariables false

theorem sumB_any (A : Option Addr) (n c B : Nat) (xs : List Int) (w : World) (h : RdS w B A n c xs) (hn : n ≤ 1000000000000) :
    Calls Try.prog 102 #[.slice A n c] w (RetIb (psT 0 xs) w) := (sum_any A n c B xs w h hn).mono fun e w' h => ⟨h.1, by rw [h.2]; exact Below.refl _ _⟩

set_option maxRecDepth 100000 in
set_option maxHeartbeats 4000000 in
theorem iActSquares (A1 : Option Addr) (n1 c1 : Nat) (xss : List (List Int)) (u : Int) (A2 : Option Addr) (n2 c2 : Nat) (yss : List (List Int)) (w : World) (h1 : RdL w w.heap.size A1 n1 c1 xss) (h2 : RdL w w.heap.size A2 n2 c2 yss) (hn1 : n1 ≤ 2000000) (hn2 : n2 ≤ 2000000) (ht1 : totalL xss ≤ 2000000) (ht2 : totalL yss ≤ 2000000) :
    Calls Try.prog 41 #[.agg #[.slice A1 n1 c1], .agg #[.int .i64 u, .slice A2 n2 c2]] w (RetPl (actO u xss yss) w) := by
  obtain ⟨w0, b, hw0, hbe, hb0, hz0, hF⟩ := start122 w (.slice A1 n1 c1) (.int .i64 u) (.slice A2 n2 c2) (.int .i64 0) (.slice none 0 0) 25 28 28
  have HL1 := Lib.hid h1.len
  have HL2 := Lib.hid h2.len
  have H1 := Lib.hid (rdL_here h1 hb0); clear h1
  have H2 := Lib.hid (rdL_here h2 hb0); clear h2
  have Hw := Lib.hid hw0; clear hw0
  have Hbe := Lib.hid hbe; clear hbe
  have Hb0 := Lib.hid hb0; clear hb0
  have HZ := Lib.hid hz0; clear hz0
  have F0 := Lib.hid hF; clear hF
  have X0 := Lib.hid (Below.refl w0.heap.size w0)
  obtain ⟨r1, hr1⟩ : ∃ r, r = isSqB xss := ⟨_, rfl⟩
  have HR1 := Lib.hid hr1; clear hr1
  obtain ⟨r2, hr2⟩ : ∃ r, r = polB u yss := ⟨_, rfl⟩
  have HR2 := Lib.hid hr2; clear hr2
  obtain ⟨o, ho⟩ : ∃ o, o = actO u xss yss := ⟨_, rfl⟩
  have HO := Lib.hid ho
  rw [← ho]
  clear ho
  go_enter Try.func41, Try.ntmps41
  go_wp2_with fail
  rw [← Hw.out, ← Hbe.out]
  have k0 := (F0.out.below X0.out).at_ (b := b) (o := 0) (V := .slice A1 n1 c1) (by simp)
  have k2 := (F0.out.below X0.out).at_ (b := b + 1) (o := 0) (V := .int .i64 u) (by simp)
  have k3 := (F0.out.below X0.out).at_ (b := b + 1) (o := 1) (V := .slice A2 n2 c2) (by simp)
  refine (iIsSquares A1 n1 c1 xss _ H1.out hn1 ht1).mono ?_
  rintro e w1 ⟨rfl, hb1⟩
  rw [← HR1.out]
  have X1 := Lib.hid hb1; clear hb1 k0 k2 k3
  have k0 := (F0.out.below X1.out).at_ (b := b) (o := 0) (V := .slice A1 n1 c1) (by simp)
  have k2 := (F0.out.below X1.out).at_ (b := b + 1) (o := 0) (V := .int .i64 u) (by simp)
  have k3 := (F0.out.below X1.out).at_ (b := b + 1) (o := 1) (V := .slice A2 n2 c2) (by simp)
  cases r1
  · have HV := Lib.hid (HO.out.trans (actO_bad1 HR1.out.symm))
    have q0 := (F0.out.below X1.out).at_ (b := b + 1 + 1) (o := 0) (V := .int .i64 0) (by simp)
    have q1 := (F0.out.below X1.out).at_ (b := b + 1 + 1) (o := 1) (V := .slice none 0 0) (by simp)
    have f0 := (F0.out.below X1.out).fr (b := b + 1 + 1) (o := 0) (V := .int .i64 0) (by simp)
    have f1 := (F0.out.below X1.out).fr (b := b + 1 + 1) (o := 1) (V := .slice none 0 0) (by simp)
    have hres := cells_end q0 q1 (.int .i64 0) (.slice none 0 0)
    go_wp2_with fail
    refine bodyPost_ret (v := .tuple #[.agg #[.int .i64 0, .slice none 0 0], .int .i64 1]) (by simp [results, Try.results41, go_sem, hres.1, hres.2]) rfl ?_
    exact RetNC.bad (by rw [HV.out]) (by rw [HV.out]) (by rw [HV.out]) (Hb0.out.trans (X1.out.mono Hb0.out.size)) (by rw [Hbe.out]; omega)
  · go_wp2_with fail
    refine (iIsPoly u A2 n2 c2 yss _ (rdL_here H2.out X1.out) hn2 ht2).mono ?_
    rintro e w2 ⟨rfl, hb2⟩
    rw [← HR2.out]
    have X2 := Lib.hid (X1.out.trans (hb2.mono X1.out.size)); clear hb2 k0 k2 k3
    have k0 := (F0.out.below X2.out).at_ (b := b) (o := 0) (V := .slice A1 n1 c1) (by simp)
    have k2 := (F0.out.below X2.out).at_ (b := b + 1) (o := 0) (V := .int .i64 u) (by simp)
    have k3 := (F0.out.below X2.out).at_ (b := b + 1) (o := 1) (V := .slice A2 n2 c2) (by simp)
    cases r2
    · have HV := Lib.hid (HO.out.trans (actO_bad2 HR2.out.symm))
      have q0 := (F0.out.below X2.out).at_ (b := b + 1 + 1) (o := 0) (V := .int .i64 0) (by simp)
      have q1 := (F0.out.below X2.out).at_ (b := b + 1 + 1) (o := 1) (V := .slice none 0 0) (by simp)
      have f0 := (F0.out.below X2.out).fr (b := b + 1 + 1) (o := 0) (V := .int .i64 0) (by simp)
      have f1 := (F0.out.below X2.out).fr (b := b + 1 + 1) (o := 1) (V := .slice none 0 0) (by simp)
      have hres := cells_end q0 q1 (.int .i64 0) (.slice none 0 0)
      go_wp2_with fail
      refine bodyPost_ret (v := .tuple #[.agg #[.int .i64 0, .slice none 0 0], .int .i64 1]) (by simp [results, Try.results41, go_sem, hres.1, hres.2]) rfl ?_
      exact RetNC.bad (by rw [HV.out]) (by rw [HV.out]) (by rw [HV.out]) (Hb0.out.trans (X2.out.mono Hb0.out.size)) (by rw [Hbe.out]; omega)
    · have HP2 := Lib.hid (polF_of HR2.out.symm)
      have HS1 := Lib.hid (sqF_of HR1.out.symm)
      by_cases hz1 : n1 = 0
      · have HV := Lib.hid (HO.out.trans (actO_void HR1.out.symm HR2.out.symm (.inl (by rw [HL1.out]; exact hz1))))
        have hz1' : ((n1 : Int) == 0) = true := by simpa using hz1
        clear hz1
        have q0 := (F0.out.below X2.out).at_ (b := b + 1 + 1) (o := 0) (V := .int .i64 0) (by simp)
        have q1 := (F0.out.below X2.out).at_ (b := b + 1 + 1) (o := 1) (V := .slice none 0 0) (by simp)
        have f0 := (F0.out.below X2.out).fr (b := b + 1 + 1) (o := 0) (V := .int .i64 0) (by simp)
        have f1 := (F0.out.below X2.out).fr (b := b + 1 + 1) (o := 1) (V := .slice none 0 0) (by simp)
        have hres := cells_end q0 q1 (.int .i64 u) (.slice none 0 0)
        go_wp2_with fail
        refine bodyPost_ret (v := .tuple #[.agg #[.int .i64 u, .slice none 0 0], .int .i64 0]) (by simp [results, Try.results41, go_sem, hres.1, hres.2]) rfl ?_
        exact RetNC.void (by rw [HV.out]) (by rw [HV.out]) (by rw [HV.out]) (Hb0.out.trans (X2.out.mono Hb0.out.size)) (by rw [Hbe.out]; omega)
      · have hz1' : ((n1 : Int) == 0) = false := by simpa using hz1
        have HZ1 := Lib.hid (show 0 < n1 by omega)
        clear hz1
        go_wp2_with fail
        refine (isZeroP_any u A2 n2 c2 _ hn2).mono ?_
        rintro e w3 ⟨rfl, hb3⟩
        have X3 := Lib.hid (X2.out.trans (hb3.mono X2.out.size)); clear hb3 k0 k2 k3
        have k0 := (F0.out.below X3.out).at_ (b := b) (o := 0) (V := .slice A1 n1 c1) (by simp)
        have k2 := (F0.out.below X3.out).at_ (b := b + 1) (o := 0) (V := .int .i64 u) (by simp)
        have k3 := (F0.out.below X3.out).at_ (b := b + 1) (o := 1) (V := .slice A2 n2 c2) (by simp)
        by_cases hz2 : n2 = 0
        · have HV := Lib.hid (HO.out.trans (actO_void HR1.out.symm HR2.out.symm (.inr (by rw [HL2.out]; exact hz2))))
          rw [decide_eq_true hz2]
          clear hz2
          have q0 := (F0.out.below X3.out).at_ (b := b + 1 + 1) (o := 0) (V := .int .i64 0) (by simp)
          have q1 := (F0.out.below X3.out).at_ (b := b + 1 + 1) (o := 1) (V := .slice none 0 0) (by simp)
          have f0 := (F0.out.below X3.out).fr (b := b + 1 + 1) (o := 0) (V := .int .i64 0) (by simp)
          have f1 := (F0.out.below X3.out).fr (b := b + 1 + 1) (o := 1) (V := .slice none 0 0) (by simp)
          have hres := cells_end q0 q1 (.int .i64 u) (.slice none 0 0)
          go_wp2_with fail
          refine bodyPost_ret (v := .tuple #[.agg #[.int .i64 u, .slice none 0 0], .int .i64 0]) (by simp [results, Try.results41, go_sem, hres.1, hres.2]) rfl ?_
          exact RetNC.void (by rw [HV.out]) (by rw [HV.out]) (by rw [HV.out]) (Hb0.out.trans (X3.out.mono Hb0.out.size)) (by rw [Hbe.out]; omega)
        · rw [decide_eq_false hz2]
          have HZ2 := Lib.hid (show 0 < n2 by omega)
          clear hz2
          obtain ⟨ad0, A0, n0, c0, x0, rfl, _, hx0, hc0, hr0⟩ := (H1.out.below X3.out).at_ HZ1.out
          have hc00 : w3.cell? ad0 = some (.slice A0 n0 c0) := by simpa [Addr.add] using hc0
          have hpos : (0 : Int) < (n1 : Int) := by have := HZ1.out; omega
          have hposn : 0 < n1 := HZ1.out
          have hh : xss.headD [] = x0 := headD_of hx0.out
          obtain ⟨d1, hd1⟩ : ∃ d, d = degL xss := ⟨_, rfl⟩
          obtain ⟨d2, hd2⟩ : ∃ d, d = degL yss := ⟨_, rfl⟩
          have hd1' : psT 0 x0 = d1 := by rw [hd1]; unfold degL; rw [hh]
          have HN0 := Lib.hid (show n0 ≤ 2000000 from by rw [← hr0.len]; exact Nat.le_trans (len_le_of_total (List.mem_of_getElem? hx0.out)) ht1)
          have HR0 := Lib.hid (hr0.mono X3.out.size)
          have D1 := fun (W : World) (hB : Below w3.heap.size w3 W) => Lib.hid (sumB_any A0 n0 c0 _ x0 W (HR0.out.below (hB.mono (Nat.le_refl _))) (by have := HN0.out; omega))
          have D2 := fun (W : World) (hB : Below w3.heap.size w3 W) => Lib.hid (degreeP_any u A2 n2 c2 _ yss W (rdL_here H2.out (X3.out.trans (hB.mono X3.out.size))) (Nat.le_refl _) hn2 ht2)
          rw [hd1'] at D1
          rw [← hd2] at D2
          have E1 := Lib.hid hd1
          have E2 := Lib.hid hd2
          have b2 := HP2.out.deg.2
          rw [← hd2] at b2
          have b1 := HS1.out.each x0 (List.mem_of_getElem? hx0.out)
          have hs1 : 0 ≤ d1 ∧ d1 ≤ 40 := by rw [hd1, ← b1.2.2.2]; exact ⟨sum_nonneg' b1.2.1, b1.2.2.1⟩
          have hwd : IntKind.i64.wrap (d1 + d2) = d1 + d2 := by rw [IntKind.wrap_i64]; omega
          clear hd1 hd2 hd1' hh hx0 hc0 hr0 b1 b2 hs1
          have g0 := cell_regrown k0
          have g2 := cell_regrown k2
          have g3 := cell_regrown k3
          have g4 := cell_regrown hc00
          go_wp2_with fail
          refine wp_region_quiet_below (by kernel_rfl) (by kernel_rfl) ?_
          repeat (go_big_quiet_step ((first | (go_at_call 102; exact Calls.regrown_of ((D1 _ (below_regrown _ _ _)).out)) | (go_at_call 82; exact Calls.regrown_of ((D2 _ (below_regrown _ _ _)).out)))))
          refine wpQuiet_nil ?_
          intro _ hw'
          obtain ⟨⟨dq, osq⟩, hw''⟩ := hw'
          subst hw''
          have hb4 := below_regrown w3 dq osq
          obtain ⟨w4, hwq⟩ : ∃ W, W = Sort.grow (redrawn w3 dq) osq := ⟨_, rfl⟩
          rw [← hwq] at hb4 ⊢
          clear hwq
          have X4 := Lib.hid (X3.out.trans (hb4.mono X3.out.size))
          clear g0 g2 g3 g4 k0 k2 k3 hb4 D1 D2 hc00
          by_cases hlim : 40 < d1 + d2
          · have HV := Lib.hid (HO.out.trans (actO_lim HR1.out.symm HR2.out.symm (by rw [HL1.out]; exact HZ1.out) (by rw [HL2.out]; exact HZ2.out) (by rw [← E1.out, ← E2.out]; exact hlim)))
            have hl : decide (40 < d1 + d2) = true := decide_eq_true hlim
            have q0 := (F0.out.below X4.out).at_ (b := b + 1 + 1) (o := 0) (V := .int .i64 0) (by simp)
            have q1 := (F0.out.below X4.out).at_ (b := b + 1 + 1) (o := 1) (V := .slice none 0 0) (by simp)
            have f0 := (F0.out.below X4.out).fr (b := b + 1 + 1) (o := 0) (V := .int .i64 0) (by simp)
            have f1 := (F0.out.below X4.out).fr (b := b + 1 + 1) (o := 1) (V := .slice none 0 0) (by simp)
            have hres := cells_end q0 q1 (.int .i64 0) (.slice none 0 0)
            go_wp2_with fail
            refine bodyPost_ret (v := .tuple #[.agg #[.int .i64 0, .slice none 0 0], .int .i64 3]) (by simp [results, Try.results41, go_sem, hres.1, hres.2]) rfl ?_
            exact RetNC.bad (by rw [HV.out]) (by rw [HV.out]) (by rw [HV.out]) (Hb0.out.trans (X4.out.mono Hb0.out.size)) (by rw [Hbe.out]; omega)
          · have HNL := Lib.hid (show xss.length = 0 ∨ yss.length = 0 ∨ degL xss + degL yss ≤ 40 from .inr (.inr (by rw [← E1.out, ← E2.out]; omega)))
            have HV := Lib.hid (HO.out.trans (actO_ok HR1.out.symm HR2.out.symm HNL.out))
            have hl : decide (40 < d1 + d2) = false := decide_eq_false hlim
            obtain ⟨k, hk⟩ : ∃ k : Nat, u = k := ⟨u.toNat, by have := HP2.out.lo; omega⟩
            have hk4 : k ≤ 4 := by have := HP2.out.hi; omega
            obtain ⟨md, mo⟩ := actO_okW HR1.out.symm HR2.out.symm hk HNL.out
            obtain ⟨d, hd⟩ : ∃ d, d = degZ yss := ⟨_, rfl⟩
            rw [← hd] at md mo
            have MD := Lib.hid md
            have MO := Lib.hid mo
            have HA2 := Lib.hid HP2.out.asc
            have L2 := Lib.hid (show yss.length ≤ 2000 from HP2.out.len)
            clear hd md mo
            subst hk
            have k0 := (F0.out.below X4.out).at_ (b := b) (o := 0) (V := .slice (some ad0) n1 c1) (by simp)
            obtain ⟨p, hp⟩ : ∃ p, p = w4.heap.size := ⟨_, rfl⟩
            obtain ⟨w5, hw5⟩ : ∃ w5, w5 = w4.alloc (.map #[] 0) := ⟨_, rfl⟩
            have O5 : Hid (OwnP w5 p []) := Lib.hid (by rw [hw5, hp]; exact OwnP.new w4)
            have X5 := Lib.hid (X4.out.trans (show Below w0.heap.size w4 w5 from by rw [hw5]; exact (Below.refl _ _).alloc X4.out.size _))
            have HP := Lib.hid (show w0.heap.size ≤ p from by rw [hp]; exact X4.out.size)
            have hmm : ∀ t, (Instr.makeMap t none).run Try.prog w4 = .ok (.map (some p)) w5 := fun t => by rw [hp, hw5]; exact run_makeMap t w4
            clear hp hw5
            have e0 := (F0.out.below X5.out).at_ (b := b) (o := 0) (V := .slice (some ad0) n1 c1) (by simp)
            go_wp2_with fail
            go_loopw [48] (fun i wr => ∃ (m : Nat) (L : List Int), m ≤ n1 ∧ i = .int .i64 m ∧ Hid (OwnP wr p L) ∧ Hid (Par L ((actP (xss.take m) yss).map encP)) ∧ Hid (L.length ≤ 16777216) ∧ Hid (∀ a ∈ L, 0 ≤ a ∧ a < 16777216) ∧ Hid (Below w0.heap.size w0 wr)) (fun i _ => n1 - (intOf i).toNat)
            case atStart => exact ⟨0, [], Nat.zero_le _, rfl, O5, Lib.hid (Par.refl _), Lib.hid (by simp), Lib.hid (fun a ha => by cases ha), X5⟩
            case round =>
              obtain ⟨m, L, hm, rfl, HPL, HQ, HN, HS, HX⟩ := hrel
              by_cases hlt : m < n1
              · obtain ⟨ad, A3, n3, c3, x, had, _, hxk, hcx, hr3⟩ := (H1.out.below HX.out).at_ hlt
                obtain rfl : ad0 = ad := by simpa using had
                clear had
                have OX := Lib.hid (MO.out x (List.mem_of_getElem? hxk.out))
                have HRX := Lib.hid (show RdS wr wr.heap.size A3 n3 c3 x from hr3.mono HX.out.size)
                have hn3 : n3 ≤ 20 := by rw [← hr3.len]; exact OX.out.1
                have HL3 := Lib.hid hr3.len
                have hwn : IntKind.i64.wrap ((n3 : Int) - 1) = (n3 : Int) - 1 := by rw [IntKind.wrap_i64]; omega
                have k3 := (F0.out.below HX.out).at_ (b := b + 1) (o := 1) (V := .slice A2 n2 c2) (by simp)
                clear hr3 e0 k0
                go_wp2_with fail
                go_loopw [9, 10] (fun v i wi => ∃ (j l c : Nat) (i' : Int) (A : Option Addr) (P : List (List Int)), j ≤ n3 ∧ i = .int .i64 i' ∧ i' = (j : Int) - 1 ∧ v = .slice A l c ∧ Hid (P = actW (x.drop j) yss) ∧ Hid (RdL wi wi.heap.size A l c P) ∧ Hid (OwnP wi p L) ∧ Hid (Below wr.heap.size wr wi)) (fun _ i _ => (intOf i + 1).toNat)
                case atStart => exact ⟨n3, n2, c2, (n3 : Int) - 1, A2, yss, Nat.le_refl _, rfl, rfl, rfl, Lib.hid (by rw [List.drop_of_length_le (by rw [HL3.out]; exact Nat.le_refl _)]; rfl), Lib.hid (rdL_here H2.out HX.out), HPL, Lib.hid (Below.refl _ _)⟩
                case round =>
                  clear k3
                  obtain ⟨j, l, c, i', A, P, hj, rfl, hi', rfl, HPe, HRP, HPL2, HY⟩ := hrel
                  have HXi := Lib.hid (HX.out.trans (HY.out.mono HX.out.size))
                  by_cases hj0 : 0 < j
                  · obtain ⟨q, rfl⟩ : ∃ q, j = q + 1 := ⟨j - 1, by omega⟩
                    obtain rfl : i' = (q : Int) := by omega
                    clear hi' hj0
                    obtain ⟨ad3, y, rfl, hby, hy, hcy⟩ := (HRX.out.below HY.out).at_ (k := q) (by omega)
                    have hst := drop_step OX.out hy
                    have HPD := Lib.hid (show ∀ z ∈ P, Deg k (d + (x.drop (q + 1)).sum) z from by rw [HPe.out]; exact actW_deg MD.out _)
                    have hPl := (asc_small (k := k) (by rw [HPe.out]; exact actW_asc HA2.out _) (fun z hz => (HPD.out z hz).mono (by omega)) hk4).1
                    have HPl := Lib.hid (show l ≤ 16777216 from by rw [← HRP.out.len]; exact hPl)
                    have HQd := Lib.hid (show ∀ z ∈ sqP P y, Mono k z from fun z hz => (sqP_deg HPD.out z hz).mono (by omega))
                    have XY := Lib.hid (show Below w0.heap.size w0 wr.drew from below_drewN HXi.out 1)
                    have HPd := Lib.hid (show OwnP wr.drew p L from HPL2.out.below (below_drewN (Below.refl _ _) 1))
                    have HYd := Lib.hid (below_drewN HY.out 1)
                    have HPn := Lib.hid (show actW (x.drop q) yss = oddL (sqP P y) from by rw [HPe.out]; exact actW_drop hy)
                    have hwq : IntKind.i64.wrap ((q : Int) - 1) = (q : Int) - 1 := by rw [IntKind.wrap_i64]; omega
                    have HSq := Lib.hid (square_any A l c k _ y P wr.drew (rdL_here HRP.out (below_drewN (Below.refl _ _) 1)) HPD.out hst.1 hst.2 hk4 (by have := HPl.out; omega))
                    have kd0 : wr.drew.cell? (ad3.add q) = some (.int .i64 y) := hcy
                    have kd1 := (F0.out.below XY.out).at_ (b := b + 1) (o := 0) (V := .int .i64 k) (by simp)
                    have ke1 := (F0.out.below HXi.out).at_ (b := b + 1) (o := 0) (V := .int .i64 k) (by simp)
                    have hby3 : (ad3.add q).block < wr.heap.size := by rw [block_of_add]; exact Nat.lt_of_lt_of_le hby HY.out.size
                    have HBY := Lib.hid hby3
                    have hq0 : (0 : Int) ≤ (q : Int) := by omega
                    have hqn : (q : Int) < (n3 : Int) := by omega
                    clear hst hPl hby hby3
                    go_wp2_with fail
                    go_region_held3 (fun w' => w'.cell? (ad3.add q) = some (.int .i64 y) ∧ w'.cell? ⟨b + 1, 0, none⟩ = some (.int .i64 k)) (first | (with_reducible exact ⟨kd0, kd1⟩) | (with_reducible exact ⟨ka0, ka1⟩) | (with_reducible exact ⟨kb0, kb1⟩))
                      (first
                        | (go_at_call 97
                           refine HSq.out.mono ?_
                           rintro e w6 ⟨r, rfl, hp6, op6, hb6⟩
                           have B6 := Lib.hid (show Below wr.heap.size wr.drew w6 from hb6)
                           have X6 := Lib.hid (XY.out.trans (B6.out.mono HXi.out.size))
                           have P6 := Lib.hid (HPd.out.below B6.out)
                           have Q6 := Lib.hid op6.odd
                           have Y6 := Lib.hid (HYd.out.trans (B6.out.mono HY.out.size))
                           have ka0 := (B6.out.cell (p := ad3.add q) HBY.out).trans kd0
                           have ka1 := (F0.out.below X6.out).at_ (b := b + 1) (o := 0) (V := .int .i64 k) (by simp)
                           have HT := terms_of Q6.out (oddL_mono HQd.out) (show k ≤ 10 by omega) (by have := oddL_small HQd.out hk4; omega)
                           rw [oddL_of_asc (oddL_asc _), ← HPn.out] at HT
                           have HT := Lib.hid HT
                           clear hp6 op6 hb6)
                        | (go_at_call 103
                           refine HT.out.mono ?_
                           rintro e w7 ⟨A7, c7, rfl, ho7, hb7⟩
                           obtain ⟨l7, hl7⟩ : ∃ l7, l7 = (actW (x.drop q) yss).length := ⟨_, rfl⟩
                           rw [← hl7] at ho7 ⊢
                           have R7 := Lib.hid ho7.rd
                           have Z6 := Lib.hid B6.out.size
                           have P7 := Lib.hid (P6.out.below hb7)
                           have Y7 := Lib.hid (Y6.out.trans (hb7.mono (Nat.le_trans HY.out.size B6.out.size)))
                           have X7 := Lib.hid (X6.out.trans (hb7.mono X6.out.size))
                           have kb0 := (hb7.cell (p := ad3.add q) (Nat.lt_of_lt_of_le HBY.out B6.out.size)).trans ka0
                           have kb1 := (F0.out.below X7.out).at_ (b := b + 1) (o := 0) (V := .int .i64 k) (by simp)
                           clear ho7 hb7 hl7))
                    go_wp2_with fail
                    go_roundw
                    case rel => exact ⟨q, l7, c7, (q : Int) - 1, A7, _, by omega, by go_num, rfl, rfl, Lib.hid rfl, R7, P7, Y7⟩
                    case measure => simp [intOf]
                  · obtain rfl : j = 0 := by omega
                    obtain rfl : i' = -1 := by omega
                    clear hi' hj0
                    have HPx := Lib.hid (show P = actW x yss from HPe.out)
                    have HPm := Lib.hid (show ∀ z ∈ P, Mono k z from by rw [HPx.out]; exact actW_mono MD.out OX.out)
                    have hPl := (asc_small (by rw [HPx.out]; exact actW_asc HA2.out _) HPm.out hk4).1
                    have HPl := Lib.hid (show l ≤ 16777216 from by rw [← HRP.out.len]; exact hPl)
                    have HPo := Lib.hid (polyOf_any A l c P wr HRP.out (fun z hz => (HPm.out z hz).ten (by omega)) (by have := HPl.out; omega))
                    clear hPl
                    go_wp2_with fail
                    refine HPo.out.mono ?_
                    rintro e w8 ⟨r, rfl, hr8, op8, hb8⟩
                    have P8 := Lib.hid (HPL2.out.below hb8)
                    have hpr : p ≠ r := by have := HPL2.out.lt; omega
                    have HPR := Lib.hid hpr
                    have Q8 := Lib.hid op8
                    have X8 := Lib.hid (HXi.out.trans (hb8.mono HXi.out.size))
                    have HPlus := Lib.hid (plus_any p r L (P.map encP) w8 P8.out Q8.out HPR.out (by rw [List.length_map]; have := HRP.out.len; have := HPl.out; have := HN.out; omega))
                    clear hr8 op8 hb8 hpr
                    go_wp2_with fail
                    refine HPlus.out.mono ?_
                    rintro e w9 ⟨rfl, hp9, hg9⟩
                    have P9 := Lib.hid (hp9.congr (oddI_par _).symm)
                    have X9 := Lib.hid (X8.out.trans (below_grownBy hg9 HP.out X8.out.size))
                    have SM := Lib.hid (show ∀ a ∈ L ++ P.map encP, 0 ≤ a ∧ a < 16777216 from fun a ha => by
                      rcases List.mem_append.1 ha with ha | ha
                      · exact HS.out a ha
                      · exact enc_small HPm.out hk4 a ha)
                    have PT := Lib.hid (show Par (oddI (L ++ P.map encP)) ((actP (xss.take (m + 1)) yss).map encP) from by
                      refine (oddI_par _).trans ?_
                      rw [actP_take_succ hxk, List.map_append, ← HPx.out]
                      exact HQ.out.append (Par.refl _))
                    clear hp9 hg9
                    go_wp2_with fail
                    go_roundw
                    case rel => exact ⟨m + 1, _, by omega, by go_num, P9, PT, Lib.hid (oddI_small SM.out), Lib.hid (fun a ha => SM.out a (oddI_sub ha)), X9⟩
                    case measure => simp [intOf]; omega
              · obtain rfl : m = n1 := by omega
                have MP := Lib.hid (actP_mono MD.out MO.out)
                have Pm := Lib.hid (show OwnP wr p ((oddL (actP xss yss)).map encP) from OwnP.odd (HPL.out.congr (by
                  have := HQ.out
                  rwa [List.take_of_length_le (by rw [HL1.out]; exact Nat.le_refl _)] at this)))
                have kd1 := (F0.out.below HX.out).at_ (b := b + 1) (o := 0) (V := .int .i64 k) (by simp)
                have HT := told_any p k (oddL (actP xss yss)) wr Pm.out (oddL_mono MP.out) (by omega) (by have := oddL_small MP.out hk4; omega)
                rw [oddL_of_asc (oddL_asc _), ← HV.out] at HT
                have HT := Lib.hid HT
                clear e0 k0
                go_wp2_with fail
                refine HT.out.mono ?_
                rintro e w9 ⟨A9, c9, rfl, om9, hb9⟩
                have X9 := Lib.hid (HX.out.trans (hb9.mono HX.out.size))
                have O9 := Lib.hid (om9.mono HX.out.size (Nat.le_refl _))
                clear om9 hb9 kd1
                have C9 := Lib.hid (F0.out.below X9.out)
                have q0 := C9.out.at_ (b := b + 1 + 1) (o := 0) (V := .int .i64 0) (by simp)
                have q1 := C9.out.at_ (b := b + 1 + 1) (o := 1) (V := .slice none 0 0) (by simp)
                have f0 := C9.out.fr (b := b + 1 + 1) (o := 0) (V := .int .i64 0) (by simp)
                have f1 := C9.out.fr (b := b + 1 + 1) (o := 1) (V := .slice none 0 0) (by simp)
                have hres := cells_end q0 q1 (.int .i64 o.1) (.slice A9 o.2.1.length c9)
                go_wp2_with fail
                refine bodyPost_ret (v := .tuple #[.agg #[.int .i64 o.1, .slice A9 o.2.1.length c9], .int .i64 o.2.2]) (by simp [results, Try.results41, go_sem, hres.1, hres.2]) rfl ?_
                exact RetNC.mk (V := w0.heap.size) rfl rfl rfl rfl (Hb0.out.trans (X9.out.mono Hb0.out.size)) (by rw [Hbe.out]; omega) (by rw [HZ.out]; omega) O9.out (Nat.le_refl _)
end Go.Proofs.Ytejlkobieohgfaa
