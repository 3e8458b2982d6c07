/- ActSquares on the reference's side. -/
import Derived.Test.YtejlkobieohgfaaActI
namespace Go.Proofs.Ytejlkobieohgfaa
open Go.RowKit
set_option linter.unusedVariables false

set_option maxRecDepth 100000 in
set_option maxHeartbeats 1000000 in
theorem l08Words_any (A1 A2 : Option Addr) (n1 c1 n2 c2 k : Nat) (d : Int) (xss yss : List (List Int)) (w : World) (h1 : RdL w w.heap.size A1 n1 c1 xss) (h2 : RdL w w.heap.size A2 n2 c2 yss) (hf : ∀ z ∈ yss, Deg k d z) (ha : Asc yss) (hw : ∀ x ∈ xss, OkW d x) (hk : k ≤ 4) (hn1 : n1 ≤ 2000) (hn2 : n2 ≤ 2000) :
    Calls Try.prog 100 #[.slice A1 n1 c1, .slice A2 n2 c2] w (RetL (oddL (actP xss yss)).length (oddL (actP xss yss)) w) := by
  have HL1 := Lib.hid h1.len
  have H1 := Lib.hid h1
  have H2 := Lib.hid h2
  have MD := Lib.hid hf
  have MO := Lib.hid hw
  have HA2 := Lib.hid ha
  have HSm := Lib.hid (show ∀ m : Nat, (oddL (actP (xss.take m) yss)).length ≤ 16777216 ∧ totalL (oddL (actP (xss.take m) yss)) ≤ 67108864 from fun m => asc_small (oddL_asc _) (oddL_mono (actP_mono hf fun x hx => hw x (List.mem_of_mem_take hx))) hk)
  obtain ⟨R, hR⟩ : ∃ R, R = RetL (oddL (actP xss yss)).length (oddL (actP xss yss)) w := ⟨_, rfl⟩
  have HR := Lib.hid hR
  rw [← hR]
  obtain ⟨B, hB⟩ : ∃ B, B = w.heap.size := ⟨_, rfl⟩
  obtain ⟨w0, hw0⟩ : ∃ w0, w0 = w.alloc (.cells #[] 29) := ⟨_, rfl⟩
  have S0 := Lib.hid (show OwnL w0 B w0.heap.size (some ⟨B, 0, none⟩) 0 0 [] from by
    have := (StL.start (Below.refl w.heap.size w) (Nat.le_refl _)).own
    rw [hw0, hB]
    simpa using this)
  have B0 := Lib.hid (show Below B w w0 from by rw [hw0, hB]; exact (Below.refl _ _).alloc (Nat.le_refl _) _)
  have HB := Lib.hid hB
  have HW0 := Lib.hid hw0
  clear h1 h2 hf ha hw hR hB hw0
  go_enter Try.func100, Try.ntmps100
  go_wp2_with fail
  rw [← HW0.out, ← HB.out]
  go_loopw [5, 6] (fun v u wr => ∃ (m l c' : Nat) (A' : Option Addr) (P : List (List Int)), m ≤ n1 ∧ u = .int .i64 m ∧ v = .slice A' l c' ∧ Hid (P = oddL (actP (xss.take m) yss)) ∧ Hid (OwnL wr B wr.heap.size A' l c' P) ∧ Hid (Below B w wr)) (fun _ u _ => n1 - (intOf u).toNat)
  case atStart => exact ⟨0, 0, 0, _, [], Nat.zero_le _, rfl, rfl, Lib.hid rfl, S0, B0⟩
  case round =>
    clear S0 B0
    obtain ⟨m, l, c', A', P, hm, rfl, rfl, HP, HO, HW⟩ := hrel
    by_cases hlt : m < n1
    · have WW := Lib.hid (show Below w.heap.size w wr from by rw [← HB.out]; exact HW.out)
      obtain ⟨ad, A3, n3, c3, x, rfl, hba, hxk, hcx, hr3⟩ := H1.out.at_ hlt
      have hcw : wr.cell? (ad.add m) = some (.slice A3 n3 c3) := (WW.out.cell (p := ad.add m) (by rw [block_of_add]; exact hba)).trans hcx
      have OX := Lib.hid (MO.out x (List.mem_of_getElem? hxk.out))
      have HRX := Lib.hid hr3
      have hn3 : n3 ≤ 20 := by rw [← hr3.len]; exact OX.out.1
      have HL3 := Lib.hid hr3.len
      have hwn : IntKind.i64.wrap ((n3 : Int) - 1) = (n3 : Int) - 1 := by rw [IntKind.wrap_i64]; omega
      have HBA := Lib.hid hba
      have HCX := Lib.hid hcx
      obtain ⟨wz, hwz⟩ : ∃ W, W = wr := ⟨_, rfl⟩
      have HO0 := Lib.hid (show OwnL wz B wz.heap.size A' l c' P from by rw [hwz]; exact HO.out)
      have WZ := Lib.hid (show Below w.heap.size w wz from by rw [hwz]; exact WW.out)
      have HWZ := Lib.hid hwz
      clear hr3 hba hcx hwz
      go_wp2_with fail
      go_loopw [7, 8] (fun v i wi => ∃ (j l c : Nat) (i' : Int) (A : Option Addr) (Q : List (List Int)), j ≤ n3 ∧ i = .int .i64 i' ∧ i' = (j : Int) - 1 ∧ v = .slice A l c ∧ Hid (Q = actW (x.drop j) yss) ∧ Hid (RdL wi wi.heap.size A l c Q) ∧ Hid (Below wz.heap.size wz wi)) (fun _ i _ => (intOf i + 1).toNat)
      case atStart => exact ⟨n3, n2, c2, (n3 : Int) - 1, A2, yss, Nat.le_refl _, rfl, rfl, rfl, Lib.hid (by rw [List.drop_of_length_le (by rw [HL3.out]; exact Nat.le_refl _)]; rfl), Lib.hid (rdL_here H2.out WW.out), Lib.hid (by rw [← HWZ.out]; exact Below.refl _ _)⟩
      case round =>
        clear hcw
        obtain ⟨j, lj, c, i', A, Q, hj, rfl, hi', rfl, HPe, HRP, HY⟩ := hrel
        have WY := Lib.hid (WZ.out.trans (HY.out.mono WZ.out.size))
        have hcw : wr.cell? (ad.add m) = some (.slice A3 n3 c3) := (WY.out.cell (p := ad.add m) (by rw [block_of_add]; exact HBA.out)).trans HCX.out
        by_cases hj0 : 0 < j
        · obtain ⟨q, rfl⟩ : ∃ q, j = q + 1 := ⟨j - 1, by omega⟩
          obtain rfl : i' = (q : Int) := by omega
          clear hi' hj0
          obtain ⟨ad3, y, rfl, hby, hy, hcy⟩ := (HRX.out.below WY.out).at_ (k := q) (by omega)
          have hst := drop_step OX.out hy
          have HPD := Lib.hid (show ∀ z ∈ Q, Deg k (d + (x.drop (q + 1)).sum) z from by rw [HPe.out]; exact actW_deg MD.out _)
          have hPl := (asc_small (k := k) (by rw [HPe.out]; exact actW_asc HA2.out _) (fun z hz => (HPD.out z hz).mono (by omega)) hk).1
          have HPl := Lib.hid (show lj ≤ 16777216 from by rw [← HRP.out.len]; exact hPl)
          have HPn := Lib.hid (show actW (x.drop q) yss = oddL (sqP Q y) from by rw [HPe.out]; exact actW_drop hy)
          have hwq : IntKind.i64.wrap ((q : Int) - 1) = (q : Int) - 1 := by rw [IntKind.wrap_i64]; omega
          have HSq := l08Square_any A lj c k _ y Q wr HRP.out HPD.out hst.1 hst.2 hk (by have := HPl.out; omega)
          rw [← HPn.out] at HSq
          have HSq := Lib.hid HSq
          have hq0 : (0 : Int) ≤ (q : Int) := by omega
          have hqn : (q : Int) < (n3 : Int) := by omega
          clear hst hPl
          go_wp2_with fail
          refine HSq.out.mono ?_
          rintro e w7 ⟨A7, c7, rfl, ho7, hb7⟩
          obtain ⟨l7, hl7⟩ : ∃ l7, l7 = (actW (x.drop q) yss).length := ⟨_, rfl⟩
          rw [← hl7] at ho7 ⊢
          have R7 := Lib.hid ho7.rd
          have Y7 := Lib.hid (HY.out.trans (hb7.mono HY.out.size))
          clear ho7 hb7 hl7
          go_wp2_with fail
          go_roundw
          case rel => exact ⟨q, l7, c7, (q : Int) - 1, A7, _, by omega, by go_num, rfl, rfl, Lib.hid rfl, R7, Y7⟩
          case measure => simp [intOf]
        · obtain rfl : j = 0 := by omega
          obtain rfl : i' = -1 := by omega
          clear hi' hj0
          have HPx := Lib.hid (show Q = actW x yss from HPe.out)
          have HPm := Lib.hid (show ∀ z ∈ Q, Mono k z from by rw [HPx.out]; exact actW_mono MD.out OX.out)
          have hPa : Asc Q := by rw [HPx.out]; exact actW_asc HA2.out _
          have hPl := asc_small hPa HPm.out hk
          have hs1 := HSm.out m
          rw [← HP.out] at hs1
          have zB := WZ.out.size
          have HS := l01Sum_any A' A l c' lj c P Q wr (HO0.out.below HY.out).rd HRP.out (by rw [← HO0.out.len]; omega) (by rw [← HRP.out.len]; omega) (by omega) (by omega) (by rw [HP.out]; exact oddL_asc _) hPa
          have hE : oddL (P ++ Q) = oddL (actP (xss.take (m + 1)) yss) := by
            rw [actP_take_succ hxk, ← HPx.out, HP.out]
            exact oddL_congr ((oddL_same _).append (SameSum.refl _))
          rw [hE] at HS
          have HS := Lib.hid HS
          clear hPa hPl hs1 hE zB
          go_wp2_with fail
          refine HS.out.mono ?_
          rintro e w5 ⟨A5, c5, rfl, ho5, hb5⟩
          obtain ⟨ls, hls⟩ : ∃ ls, ls = (oddL (actP (xss.take (m + 1)) yss)).length := ⟨_, rfl⟩
          rw [← hls] at ho5 ⊢
          have W5 := Lib.hid (show Below B w w5 from by rw [HB.out]; exact WY.out.trans (hb5.mono WY.out.size))
          have O5 := Lib.hid (ho5.mono (show B ≤ wr.heap.size by rw [HB.out]; exact WY.out.size) (Nat.le_refl _))
          clear ho5 hb5 hls
          go_wp2_with fail
          go_roundw
          case rel => exact ⟨m + 1, ls, c5, A5, _, by omega, by go_num, rfl, Lib.hid rfl, O5, W5⟩
          case measure => simp [intOf]; omega
    · obtain rfl : m = n1 := by omega
      have HE := Lib.hid (show P = oddL (actP xss yss) from by rw [HP.out, List.take_of_length_le (by rw [HL1.out]; exact Nat.le_refl _)])
      go_wp2_with fail
      rw [HR.out, ← HE.out]
      rw [HB.out] at HO HW
      obtain rfl := HO.out.len
      exact ⟨A', c', rfl, HO.out, HW.out⟩
set_option maxRecDepth 100000 in
set_option maxHeartbeats 4000000 in
theorem sActSquares (A1 : Option Addr) (n1 c1 : Nat) (xss : List (List Int)) (u : Int) (A2 : Option Addr) (n2 c2 : Nat) (yss : List (List Int)) (w : World) (h1 : RdL w w.heap.size A1 n1 c1 xss) (h2 : RdL w w.heap.size A2 n2 c2 yss) (hn1 : n1 ≤ 2000000) (hn2 : n2 ≤ 2000000) (ht1 : totalL xss ≤ 2000000) (ht2 : totalL yss ≤ 2000000) :
    Calls Try.prog 39 #[.agg #[.slice A1 n1 c1], .agg #[.int .i64 u, .slice A2 n2 c2]] w (RetPl (actO u xss yss) w) := by
  obtain ⟨w0, b, hw0, hbe, hb0, hz0, hF⟩ := start122 w (.slice A1 n1 c1) (.int .i64 u) (.slice A2 n2 c2) (.int .i64 0) (.slice none 0 0) 25 28 28
  have HL1 := Lib.hid h1.len
  have HL2 := Lib.hid h2.len
  have H1 := Lib.hid (rdL_here h1 hb0); clear h1
  have H2 := Lib.hid (rdL_here h2 hb0); clear h2
  have Hw := Lib.hid hw0; clear hw0
  have Hbe := Lib.hid hbe; clear hbe
  have Hb0 := Lib.hid hb0; clear hb0
  have HZ := Lib.hid hz0; clear hz0
  have F0 := Lib.hid hF; clear hF
  have X0 := Lib.hid (Below.refl w0.heap.size w0)
  obtain ⟨r1, hr1⟩ : ∃ r, r = isSqB xss := ⟨_, rfl⟩
  have HR1 := Lib.hid hr1; clear hr1
  obtain ⟨r2, hr2⟩ : ∃ r, r = polB u yss := ⟨_, rfl⟩
  have HR2 := Lib.hid hr2; clear hr2
  obtain ⟨o, ho⟩ : ∃ o, o = actO u xss yss := ⟨_, rfl⟩
  have HO := Lib.hid ho
  rw [← ho]
  clear ho
  go_enter Try.func39, Try.ntmps39
  go_wp2_with fail
  rw [← Hw.out, ← Hbe.out]
  have k0 := (F0.out.below X0.out).at_ (b := b) (o := 0) (V := .slice A1 n1 c1) (by simp)
  have k2 := (F0.out.below X0.out).at_ (b := b + 1) (o := 0) (V := .int .i64 u) (by simp)
  have k3 := (F0.out.below X0.out).at_ (b := b + 1) (o := 1) (V := .slice A2 n2 c2) (by simp)
  refine (l03Is_any A1 n1 c1 xss _ H1.out hn1 ht1).mono ?_
  rintro e w1 ⟨rfl, hb1⟩
  rw [← HR1.out]
  have X1 := Lib.hid hb1; clear hb1 k0 k2 k3
  have k0 := (F0.out.below X1.out).at_ (b := b) (o := 0) (V := .slice A1 n1 c1) (by simp)
  have k2 := (F0.out.below X1.out).at_ (b := b + 1) (o := 0) (V := .int .i64 u) (by simp)
  have k3 := (F0.out.below X1.out).at_ (b := b + 1) (o := 1) (V := .slice A2 n2 c2) (by simp)
  cases r1
  · have HV := Lib.hid (HO.out.trans (actO_bad1 HR1.out.symm))
    have q0 := (F0.out.below X1.out).at_ (b := b + 1 + 1) (o := 0) (V := .int .i64 0) (by simp)
    have q1 := (F0.out.below X1.out).at_ (b := b + 1 + 1) (o := 1) (V := .slice none 0 0) (by simp)
    have f0 := (F0.out.below X1.out).fr (b := b + 1 + 1) (o := 0) (V := .int .i64 0) (by simp)
    have f1 := (F0.out.below X1.out).fr (b := b + 1 + 1) (o := 1) (V := .slice none 0 0) (by simp)
    have hres := cells_end q0 q1 (.int .i64 0) (.slice none 0 0)
    go_wp2_with fail
    refine bodyPost_ret (v := .tuple #[.agg #[.int .i64 0, .slice none 0 0], .int .i64 1]) (by simp [results, Try.results39, go_sem, hres.1, hres.2]) rfl ?_
    exact RetNC.bad (by rw [HV.out]) (by rw [HV.out]) (by rw [HV.out]) (Hb0.out.trans (X1.out.mono Hb0.out.size)) (by rw [Hbe.out]; omega)
  · go_wp2_with fail
    refine (l08Is_any u A2 n2 c2 yss _ (rdL_here H2.out X1.out) hn2 ht2).mono ?_
    rintro e w2 ⟨rfl, hb2⟩
    rw [← HR2.out]
    have X2 := Lib.hid (X1.out.trans (hb2.mono X1.out.size)); clear hb2 k0 k2 k3
    have k0 := (F0.out.below X2.out).at_ (b := b) (o := 0) (V := .slice A1 n1 c1) (by simp)
    have k2 := (F0.out.below X2.out).at_ (b := b + 1) (o := 0) (V := .int .i64 u) (by simp)
    have k3 := (F0.out.below X2.out).at_ (b := b + 1) (o := 1) (V := .slice A2 n2 c2) (by simp)
    cases r2
    · have HV := Lib.hid (HO.out.trans (actO_bad2 HR2.out.symm))
      have q0 := (F0.out.below X2.out).at_ (b := b + 1 + 1) (o := 0) (V := .int .i64 0) (by simp)
      have q1 := (F0.out.below X2.out).at_ (b := b + 1 + 1) (o := 1) (V := .slice none 0 0) (by simp)
      have f0 := (F0.out.below X2.out).fr (b := b + 1 + 1) (o := 0) (V := .int .i64 0) (by simp)
      have f1 := (F0.out.below X2.out).fr (b := b + 1 + 1) (o := 1) (V := .slice none 0 0) (by simp)
      have hres := cells_end q0 q1 (.int .i64 0) (.slice none 0 0)
      go_wp2_with fail
      refine bodyPost_ret (v := .tuple #[.agg #[.int .i64 0, .slice none 0 0], .int .i64 1]) (by simp [results, Try.results39, go_sem, hres.1, hres.2]) rfl ?_
      exact RetNC.bad (by rw [HV.out]) (by rw [HV.out]) (by rw [HV.out]) (Hb0.out.trans (X2.out.mono Hb0.out.size)) (by rw [Hbe.out]; omega)
    · have HP2 := Lib.hid (polF_of HR2.out.symm)
      have HS1 := Lib.hid (sqF_of HR1.out.symm)
      obtain ⟨d1, hd1⟩ : ∃ d, d = degL xss := ⟨_, rfl⟩
      obtain ⟨d2, hd2⟩ : ∃ d, d = degL yss := ⟨_, rfl⟩
      have E1 := Lib.hid hd1
      have E2 := Lib.hid hd2
      clear hd1 hd2
      have D2 := fun (W : World) (hB : Below w2.heap.size w2 W) => Lib.hid (show Calls Try.prog 78 #[.slice A2 n2 c2] W (RetIb d2 W) from by
        rw [E2.out]
        exact (l08Degree_any A2 n2 c2 _ yss W (rdL_here H2.out (X2.out.trans (hB.mono X2.out.size))) hn2 ht2).mono fun e w' h => ⟨h.1, by rw [h.2]; exact Below.refl _ _⟩)
      have hcase : (Hid (0 < n1) ∧ Hid (0 < n2) ∧ Hid (40 < d1 + d2)) ∨ Hid (n1 = 0) ∨ (Hid (0 < n1) ∧ Hid (n2 = 0)) ∨ (Hid (0 < n1) ∧ Hid (0 < n2) ∧ Hid (d1 + d2 ≤ 40)) := by
        by_cases a2 : n1 = 0
        · exact .inr (.inl (Lib.hid a2))
        · by_cases a3 : n2 = 0
          · exact .inr (.inr (.inl ⟨Lib.hid (by omega), Lib.hid a3⟩))
          · by_cases a4 : d1 + d2 ≤ 40
            · exact .inr (.inr (.inr ⟨Lib.hid (by omega), Lib.hid (by omega), Lib.hid a4⟩))
            · exact .inl ⟨Lib.hid (by omega), Lib.hid (by omega), Lib.hid (by omega)⟩
      have g0 := cell_regrown k0
      have g2 := cell_regrown k2
      have g3 := cell_regrown k3
      rcases hcase with ⟨a2, a3, a4⟩ | hcase
      · have HV := Lib.hid (HO.out.trans (actO_lim HR1.out.symm HR2.out.symm (by rw [HL1.out]; exact a2.out) (by rw [HL2.out]; exact a3.out) (by rw [← E1.out, ← E2.out]; exact a4.out)))
        have t1 : decide ((0 : Int) < n1) = true := decide_eq_true (by have := a2.out; omega)
        have t2 : decide ((0 : Int) < n2) = true := decide_eq_true (by have := a3.out; omega)
        have t3 : decide (0 < n1) = true := decide_eq_true a2.out
        have t4 : decide (0 < n2) = true := decide_eq_true a3.out
        obtain ⟨ad0, A0, n0, c0, x0, rfl, _, hx0, hc0, hr0⟩ := (H1.out.below X2.out).at_ a2.out
        have hc00 : w2.cell? ad0 = some (.slice A0 n0 c0) := by simpa [Addr.add] using hc0
        have hpos : (0 : Int) < (n1 : Int) := by have := a2.out; omega
        have hposn : 0 < n1 := a2.out
        have hh : xss.headD [] = x0 := headD_of hx0.out
        have HN0 := Lib.hid (show n0 ≤ 2000000 from by rw [← hr0.len]; exact Nat.le_trans (len_le_of_total (List.mem_of_getElem? hx0.out)) ht1)
        have b1 := HS1.out.each x0 (List.mem_of_getElem? hx0.out)
        have hd1' : psT 0 x0 = d1 := by rw [E1.out]; unfold degL; rw [hh]
        have HR0 := Lib.hid (hr0.mono X2.out.size)
        have D1 := fun (W : World) (hB : Below w2.heap.size w2 W) => Lib.hid (show Calls Try.prog 99 #[.slice A0 n0 c0] W (RetIb d1 W) from by
          rw [← hd1']
          exact (deg03_any A0 n0 c0 _ x0 W (HR0.out.below (hB.mono (Nat.le_refl _))) (by have := HN0.out; omega)).mono fun e w' h => ⟨h.1, by rw [h.2]; exact Below.refl _ _⟩)
        have hwd : IntKind.i64.wrap (d1 + d2) = d1 + d2 := by
          have b2 := HP2.out.deg.2
          rw [← E2.out] at b2
          have hs1 : 0 ≤ d1 ∧ d1 ≤ 40 := by rw [E1.out, ← b1.2.2.2]; exact ⟨sum_nonneg' b1.2.1, b1.2.2.1⟩
          rw [IntKind.wrap_i64]; omega
        have g4 := cell_regrown hc00
        clear hh hx0 hc0 hr0 b1 hd1'
        have hl : decide (40 < d1 + d2) = true := decide_eq_true a4.out
        go_wp2_with fail
        refine wp_region_quiet_below (by kernel_rfl) (by kernel_rfl) ?_
        repeat (go_big_quiet_step ((first | (go_at_call 99; exact Calls.regrown_of ((D1 _ (below_regrown _ _ _)).out)) | (go_at_call 78; exact Calls.regrown_of ((D2 _ (below_regrown _ _ _)).out)))))
        refine wpQuiet_nil ?_
        intro _ hw'
        obtain ⟨⟨dq, osq⟩, hw''⟩ := hw'
        subst hw''
        have hb3 := below_regrown w2 dq osq
        obtain ⟨w3, hwq⟩ : ∃ W, W = Sort.grow (redrawn w2 dq) osq := ⟨_, rfl⟩
        rw [← hwq] at hb3 ⊢
        clear hwq
        have X3 := Lib.hid (X2.out.trans (hb3.mono X2.out.size))
        clear g0 g2 g3 g4 k0 k2 k3 hb3 D1 D2 t1 t2 t3 t4 hwd hpos hposn hc00
        have q0 := (F0.out.below X3.out).at_ (b := b + 1 + 1) (o := 0) (V := .int .i64 0) (by simp)
        have q1 := (F0.out.below X3.out).at_ (b := b + 1 + 1) (o := 1) (V := .slice none 0 0) (by simp)
        have f0 := (F0.out.below X3.out).fr (b := b + 1 + 1) (o := 0) (V := .int .i64 0) (by simp)
        have f1 := (F0.out.below X3.out).fr (b := b + 1 + 1) (o := 1) (V := .slice none 0 0) (by simp)
        have hres := cells_end q0 q1 (.int .i64 0) (.slice none 0 0)
        go_wp2_with fail
        refine bodyPost_ret (v := .tuple #[.agg #[.int .i64 0, .slice none 0 0], .int .i64 3]) (by simp [results, Try.results39, go_sem, hres.1, hres.2]) rfl ?_
        exact RetNC.bad (by rw [HV.out]) (by rw [HV.out]) (by rw [HV.out]) (Hb0.out.trans (X3.out.mono Hb0.out.size)) (by rw [Hbe.out]; omega)
      · have HNL := Lib.hid (show xss.length = 0 ∨ yss.length = 0 ∨ degL xss + degL yss ≤ 40 from by
          rcases hcase with a | ⟨_, a⟩ | ⟨_, _, a⟩
          · exact .inl (by rw [HL1.out]; exact a.out)
          · exact .inr (.inl (by rw [HL2.out]; exact a.out))
          · exact .inr (.inr (by rw [← E1.out, ← E2.out]; exact a.out)))
        have HV := Lib.hid (HO.out.trans (actO_ok HR1.out.symm HR2.out.symm HNL.out))
        obtain ⟨k, hk⟩ : ∃ k : Nat, u = k := ⟨u.toNat, by have := HP2.out.lo; omega⟩
        have hk4 : k ≤ 4 := by have := HP2.out.hi; omega
        obtain ⟨md, mo⟩ := actO_okW HR1.out.symm HR2.out.symm hk HNL.out
        obtain ⟨d, hd⟩ : ∃ d, d = degZ yss := ⟨_, rfl⟩
        rw [← hd] at md mo
        have MD := Lib.hid md
        have MO := Lib.hid mo
        have HA2 := Lib.hid HP2.out.asc
        have L1 := Lib.hid (show n1 ≤ 2000 from by rw [← HL1.out]; exact HS1.out.len)
        have L2 := Lib.hid (show n2 ≤ 2000 from by rw [← HL2.out]; exact HP2.out.len)
        clear hd md mo hk
        obtain ⟨s, hs⟩ : ∃ s, s = oddL (actP xss yss) := ⟨_, rfl⟩
        have hsl : s.length ≤ 16777216 := by rw [hs]; exact oddL_small (actP_mono MD.out MO.out) hk4
        have HS := fun (W : World) (hB : Below w0.heap.size w0 W) => Lib.hid (l08Words_any A1 A2 n1 c1 n2 c2 k d xss yss W (rdL_here H1.out hB) (rdL_here H2.out hB) MD.out HA2.out MO.out hk4 L1.out L2.out)
        rw [← hs] at HS HV
        obtain ⟨l, hl⟩ : ∃ l, l = s.length := ⟨_, rfl⟩
        rw [← hl] at HS hsl
        have HLs := Lib.hid hl
        clear hs hl
        rcases hcase with a2 | ⟨a2, a3⟩ | ⟨a2, a3, a4⟩
        have t1 : decide ((0 : Int) < n1) = false := decide_eq_false (by have := a2.out; omega)
        have t3 : decide (0 < n1) = false := decide_eq_false (by have := a2.out; omega)
        go_wp2_with fail
        refine wp_region_quiet_below (by kernel_rfl) (by kernel_rfl) ?_
        repeat (go_big_quiet_step (fail))
        refine wpQuiet_nil ?_
        intro _ hw'
        obtain ⟨⟨dq, osq⟩, hw''⟩ := hw'
        subst hw''
        have hb3 := below_regrown w2 dq osq
        obtain ⟨w3, hwq⟩ : ∃ W, W = Sort.grow (redrawn w2 dq) osq := ⟨_, rfl⟩
        rw [← hwq] at hb3 ⊢
        clear hwq
        clear t1 t3
        rotate_left
        have t1 : decide ((0 : Int) < n1) = true := decide_eq_true (by have := a2.out; omega)
        have t2 : decide ((0 : Int) < n2) = false := decide_eq_false (by have := a3.out; omega)
        have t3 : decide (0 < n1) = true := decide_eq_true a2.out
        have t4 : decide (0 < n2) = false := decide_eq_false (by have := a3.out; omega)
        go_wp2_with fail
        refine wp_region_quiet_below (by kernel_rfl) (by kernel_rfl) ?_
        repeat (go_big_quiet_step (fail))
        refine wpQuiet_nil ?_
        intro _ hw'
        obtain ⟨⟨dq, osq⟩, hw''⟩ := hw'
        subst hw''
        have hb3 := below_regrown w2 dq osq
        obtain ⟨w3, hwq⟩ : ∃ W, W = Sort.grow (redrawn w2 dq) osq := ⟨_, rfl⟩
        rw [← hwq] at hb3 ⊢
        clear hwq
        clear t1 t2 t3 t4
        rotate_left
        have t1 : decide ((0 : Int) < n1) = true := decide_eq_true (by have := a2.out; omega)
        have t2 : decide ((0 : Int) < n2) = true := decide_eq_true (by have := a3.out; omega)
        have t3 : decide (0 < n1) = true := decide_eq_true a2.out
        have t4 : decide (0 < n2) = true := decide_eq_true a3.out
        obtain ⟨ad0, A0, n0, c0, x0, rfl, _, hx0, hc0, hr0⟩ := (H1.out.below X2.out).at_ a2.out
        have hc00 : w2.cell? ad0 = some (.slice A0 n0 c0) := by simpa [Addr.add] using hc0
        have hpos : (0 : Int) < (n1 : Int) := by have := a2.out; omega
        have hposn : 0 < n1 := a2.out
        have hh : xss.headD [] = x0 := headD_of hx0.out
        have HN0 := Lib.hid (show n0 ≤ 2000000 from by rw [← hr0.len]; exact Nat.le_trans (len_le_of_total (List.mem_of_getElem? hx0.out)) ht1)
        have b1 := HS1.out.each x0 (List.mem_of_getElem? hx0.out)
        have hd1' : psT 0 x0 = d1 := by rw [E1.out]; unfold degL; rw [hh]
        have HR0 := Lib.hid (hr0.mono X2.out.size)
        have D1 := fun (W : World) (hB : Below w2.heap.size w2 W) => Lib.hid (show Calls Try.prog 99 #[.slice A0 n0 c0] W (RetIb d1 W) from by
          rw [← hd1']
          exact (deg03_any A0 n0 c0 _ x0 W (HR0.out.below (hB.mono (Nat.le_refl _))) (by have := HN0.out; omega)).mono fun e w' h => ⟨h.1, by rw [h.2]; exact Below.refl _ _⟩)
        have hwd : IntKind.i64.wrap (d1 + d2) = d1 + d2 := by
          have b2 := HP2.out.deg.2
          rw [← E2.out] at b2
          have hs1 : 0 ≤ d1 ∧ d1 ≤ 40 := by rw [E1.out, ← b1.2.2.2]; exact ⟨sum_nonneg' b1.2.1, b1.2.2.1⟩
          rw [IntKind.wrap_i64]; omega
        have g4 := cell_regrown hc00
        clear hh hx0 hc0 hr0 b1 hd1'
        have hl : decide (40 < d1 + d2) = false := decide_eq_false (Int.not_lt.2 a4.out)
        go_wp2_with fail
        refine wp_region_quiet_below (by kernel_rfl) (by kernel_rfl) ?_
        repeat (go_big_quiet_step ((first | (go_at_call 99; exact Calls.regrown_of ((D1 _ (below_regrown _ _ _)).out)) | (go_at_call 78; exact Calls.regrown_of ((D2 _ (below_regrown _ _ _)).out)))))
        refine wpQuiet_nil ?_
        intro _ hw'
        obtain ⟨⟨dq, osq⟩, hw''⟩ := hw'
        subst hw''
        have hb3 := below_regrown w2 dq osq
        obtain ⟨w3, hwq⟩ : ∃ W, W = Sort.grow (redrawn w2 dq) osq := ⟨_, rfl⟩
        rw [← hwq] at hb3 ⊢
        clear hwq
        clear t1 t2 t3 t4 hwd hpos hposn g4 hc00 hl D1 HR0
        generalize hA1 : some ad0 = A1 at F0 H1 HS Hw k0 g0 ⊢
        clear hA1
        all_goals
          have X3 := Lib.hid (X2.out.trans (hb3.mono X2.out.size))
          clear g0 g2 g3 k0 k2 k3 hb3 D2
          obtain ⟨xr, fA, nr, fc, kr, HF, HR1x, HR2x, HR3x, HR4x⟩ := fit_cases (v := u) HV.out HLs.out (by omega)
          have Bd := Lib.hid (show Below w0.heap.size w0 w3.drew from below_drewN X3.out 1)
          have C2 := Lib.hid (F0.out.below X3.out)
          have Cd := Lib.hid (show Cells _ w3.drew from C2.out.drewN 1)
          have BdA := Lib.hid (show Below w0.heap.size w0 (w3.alloc (.cells #[.int .i64 0, .slice none 0 0] 28)).drew from below_drewN (X3.out.alloc X3.out.size _) 1)
          have CdA := Lib.hid (show Cells _ (w3.alloc (.cells #[.int .i64 0, .slice none 0 0] 28)).drew from (C2.out.below ((Below.refl _ _).alloc (Nat.le_refl _) (.cells #[.int .i64 0, .slice none 0 0] 28))).drewN 1)
          have NdA := Lib.hid (show Cells [(w3.heap.size, 0, .int .i64 0), (w3.heap.size, 1, .slice none 0 0)] (w3.alloc (.cells #[.int .i64 0, .slice none 0 0] 28)).drew from (Cells.nil.alloc2 (.int .i64 0) (.slice none 0 0) 28 (w := w3) rfl).drewN 1)
          have zl2 : b + 1 < w3.heap.size := by have := X3.out.size; have := HZ.out; omega
          have zA : (w3.alloc (.cells #[.int .i64 0, .slice none 0 0] 28)).drew.heap.size = w3.heap.size + 1 := by show (w3.alloc (.cells #[.int .i64 0, .slice none 0 0] 28)).heap.size = _; simp
          have kd0 := Cd.out.at_ (b := b) (o := 0) (V := .slice A1 n1 c1) (by simp)
          have kd1 := Cd.out.at_ (b := b + 1) (o := 0) (V := .int .i64 u) (by simp)
          have kd2 := Cd.out.at_ (b := b + 1) (o := 1) (V := .slice A2 n2 c2) (by simp)
          have ke0 := CdA.out.at_ (b := b) (o := 0) (V := .slice A1 n1 c1) (by simp)
          have ke1 := CdA.out.at_ (b := b + 1) (o := 0) (V := .int .i64 u) (by simp)
          have ke2 := CdA.out.at_ (b := b + 1) (o := 1) (V := .slice A2 n2 c2) (by simp)
          go_wp2_with fail
          go_region_held3 (fun w' => w'.cell? ⟨b, 0, none⟩ = some (.slice A1 n1 c1) ∧ w'.cell? ⟨b + 1, 0, none⟩ = some (.int .i64 u) ∧ w'.cell? ⟨b + 1, 1, none⟩ = some (.slice A2 n2 c2)) (first | (with_reducible exact ⟨kd0, kd1, kd2⟩) | (with_reducible exact ⟨ke0, ke1, ke2⟩) | (with_reducible exact ⟨ka0, ka1, ka2⟩) | (with_reducible exact ⟨kf0, kf1, kf2⟩) | (with_reducible exact ⟨kb0, kb1, kb2⟩) | (with_reducible exact ⟨kg0, kg1, kg2⟩) | (with_reducible exact ⟨kh0, kh1, kh2⟩) | (with_reducible exact ⟨two_far mm0 kb0, two_far mm1 kb1, two_far mm1 kb2⟩))
            (first
              | (go_at_call 100
                 refine (HS _ (by first | exact Bd.out | exact BdA.out)).out.mono ?_
                 rintro e w4 ⟨A5, c5, rfl, ho5, hb5⟩
                 have B4 : Hid (Below w0.heap.size w0 w4) := by
                   first
                     | exact Lib.hid (Bd.out.trans (hb5.mono Bd.out.size))
                     | exact Lib.hid (BdA.out.trans (hb5.mono BdA.out.size))
                 have M4 : Hid (OwnM w4 w3.heap.size w4.heap.size A5 l c5 s) := by
                   first
                     | exact Lib.hid (ho5.m (Nat.le_refl _))
                     | exact Lib.hid ((ho5.m (Nat.le_refl _)).mono (Nat.le_trans (Nat.le_succ _) (Nat.le_of_eq zA.symm)) (Nat.le_refl _))
                 first
                   | have M4s : Hid (OwnM w4 (w3.heap.size + 1) w4.heap.size A5 l c5 s) := Lib.hid ((ho5.m (Nat.le_refl _)).mono (Nat.le_of_eq zA.symm) (Nat.le_refl _))
                   | skip
                 have C4 := Lib.hid (F0.out.below B4.out)
                 have B4A := Lib.hid (show Below w0.heap.size w0 (w4.alloc (.cells #[.int .i64 0, .slice none 0 0] 28)) from B4.out.alloc B4.out.size _)
                 have C4A := Lib.hid (C4.out.below ((Below.refl _ _).alloc (Nat.le_refl _) (.cells #[.int .i64 0, .slice none 0 0] 28)))
                 have M4A := Lib.hid (M4.out.below ((Below.refl _ _).alloc (Nat.le_refl _) (.cells #[.int .i64 0, .slice none 0 0] 28)))
                 have N4A := Lib.hid (Cells.nil.alloc2 (.int .i64 0) (.slice none 0 0) 28 (w := w4) rfl)
                 first
                   | have N4 := Lib.hid (NdA.out.below hb5)
                   | skip
                 have ka0 := C4.out.at_ (b := b) (o := 0) (V := .slice A1 n1 c1) (by simp)
                 have ka1 := C4.out.at_ (b := b + 1) (o := 0) (V := .int .i64 u) (by simp)
                 have ka2 := C4.out.at_ (b := b + 1) (o := 1) (V := .slice A2 n2 c2) (by simp)
                 have kf0 := C4A.out.at_ (b := b) (o := 0) (V := .slice A1 n1 c1) (by simp)
                 have kf1 := C4A.out.at_ (b := b + 1) (o := 0) (V := .int .i64 u) (by simp)
                 have kf2 := C4A.out.at_ (b := b + 1) (o := 1) (V := .slice A2 n2 c2) (by simp)
                 clear ho5 hb5)
              | (go_at_call 88
                 refine (HF _ _ _).out.mono ?_
                 rintro e w5 ⟨rfl, hb6⟩
                 have B5 : Hid (Below w0.heap.size w0 w5) := by
                   first
                     | exact Lib.hid (B4.out.trans (hb6.mono B4.out.size))
                     | exact Lib.hid (B4A.out.trans (hb6.mono B4A.out.size))
                 have M5 : Hid (OwnM w5 w3.heap.size w4.heap.size A5 l c5 s) := by
                   first
                     | exact Lib.hid (M4.out.below hb6)
                     | exact Lib.hid (M4A.out.below hb6)
                 have Z5 : w4.heap.size ≤ w5.heap.size := by
                   first
                     | exact hb6.size
                     | exact Nat.le_trans (by simp) hb6.size
                 first
                   | (have N5 := Lib.hid (N4.out.below hb6)
                      have M5s : Hid (OwnM w5 (w3.heap.size + 1) w4.heap.size A5 l c5 s) := Lib.hid (M4s.out.below hb6)
                      have n0 := N5.out.at_ (b := w3.heap.size) (o := 0) (V := .int .i64 0) (by simp)
                      have n1' := N5.out.at_ (b := w3.heap.size) (o := 1) (V := .slice none 0 0) (by simp)
                      have nf0 := N5.out.fr (b := w3.heap.size) (o := 0) (V := .int .i64 0) (by simp)
                      have nf1 := N5.out.fr (b := w3.heap.size) (o := 1) (V := .slice none 0 0) (by simp)
                      have mm0 : w3.heap.size ≠ b := by have := B4.out.size; have := HZ.out; omega
                      have mm1 : w3.heap.size ≠ b + 1 := by have := B4.out.size; have := HZ.out; omega)
                   | (have N5 := Lib.hid (N4A.out.below hb6)
                      have n0 := N5.out.at_ (b := w4.heap.size) (o := 0) (V := .int .i64 0) (by simp)
                      have n1' := N5.out.at_ (b := w4.heap.size) (o := 1) (V := .slice none 0 0) (by simp)
                      have nf0 := N5.out.fr (b := w4.heap.size) (o := 0) (V := .int .i64 0) (by simp)
                      have nf1 := N5.out.fr (b := w4.heap.size) (o := 1) (V := .slice none 0 0) (by simp)
                      have mm0 : w4.heap.size ≠ b := by have := B4.out.size; have := HZ.out; omega
                      have mm1 : w4.heap.size ≠ b + 1 := by have := B4.out.size; have := HZ.out; omega)
                   | skip
                 have C5 := Lib.hid (F0.out.below B5.out)
                 have C5A := Lib.hid (C5.out.below ((Below.refl _ _).alloc (Nat.le_refl _) (.cells #[.int .i64 0, .slice none 0 0] 28)))
                 have C5B := Lib.hid (C5.out.below ((Below.refl _ _).alloc (Nat.le_refl _) (.cells #[.int .i64 xr, .slice (fA A5) nr (fc c5)] 28)))
                 have kb0 := C5.out.at_ (b := b) (o := 0) (V := .slice A1 n1 c1) (by simp)
                 have kb1 := C5.out.at_ (b := b + 1) (o := 0) (V := .int .i64 u) (by simp)
                 have kb2 := C5.out.at_ (b := b + 1) (o := 1) (V := .slice A2 n2 c2) (by simp)
                 have kg0 := C5A.out.at_ (b := b) (o := 0) (V := .slice A1 n1 c1) (by simp)
                 have kg1 := C5A.out.at_ (b := b + 1) (o := 0) (V := .int .i64 u) (by simp)
                 have kg2 := C5A.out.at_ (b := b + 1) (o := 1) (V := .slice A2 n2 c2) (by simp)
                 have kh0 := C5B.out.at_ (b := b) (o := 0) (V := .slice A1 n1 c1) (by simp)
                 have kh1 := C5B.out.at_ (b := b + 1) (o := 0) (V := .int .i64 u) (by simp)
                 have kh2 := C5B.out.at_ (b := b + 1) (o := 1) (V := .slice A2 n2 c2) (by simp)
                 clear hb6))
          all_goals
            first
              | (obtain ⟨wz, hwz⟩ : ∃ W, W = w5.alloc (.cells #[.int .i64 xr, .slice (fA A5) nr (fc c5)] 28) := ⟨_, rfl⟩
                 rw [← hwz]
                 have XZ := Lib.hid (show Below w0.heap.size w0 wz from by rw [hwz]; exact B5.out.alloc B5.out.size _)
                 have MZ := Lib.hid (show OwnM wz w0.heap.size w4.heap.size A5 l c5 s from by rw [hwz]; exact (M5.out.below ((Below.refl _ _).alloc (Nat.le_refl _) _)).mono X3.out.size (Nat.le_refl _))
                 have hz4 : w4.heap.size ≤ wz.heap.size := by rw [hwz]; simp; omega
                 have y0 : wz.cell? ⟨w5.heap.size, 0, none⟩ = some (.int .i64 xr) := by rw [hwz]; exact new_at rfl rfl
                 have y1 : wz.cell? ⟨w5.heap.size, 1, none⟩ = some (.slice (fA A5) nr (fc c5)) := by rw [hwz]; exact new_at rfl rfl
                 clear hwz)
              | (obtain ⟨wz, hwz⟩ : ∃ W, W = (w5.setCell ⟨w4.heap.size, 0, none⟩ (.int .i64 xr)).setCell ⟨w4.heap.size, 1, none⟩ (.slice (fA A5) nr (fc c5)) := ⟨_, rfl⟩
                 rw [← hwz]
                 have XZ := Lib.hid (show Below w0.heap.size w0 wz from by rw [hwz]; exact (B5.out.setCell (p := ⟨w4.heap.size, 0, none⟩) B4.out.size _).setCell (p := ⟨w4.heap.size, 1, none⟩) B4.out.size _)
                 have MZ := Lib.hid (show OwnM wz w0.heap.size w4.heap.size A5 l c5 s from by rw [hwz]; exact (M5.out.two Z5 (.inr (Nat.le_refl _))).mono X3.out.size (Nat.le_refl _))
                 have hz4 : w4.heap.size ≤ wz.heap.size := by rw [hwz]; simp [World.setCell]; omega
                 have y0 : wz.cell? ⟨w4.heap.size, 0, none⟩ = some (.int .i64 xr) := by rw [hwz]; exact (cells_end n0 n1' (.int .i64 xr) (.slice (fA A5) nr (fc c5))).1
                 have y1 : wz.cell? ⟨w4.heap.size, 1, none⟩ = some (.slice (fA A5) nr (fc c5)) := by rw [hwz]; exact (cells_end n0 n1' (.int .i64 xr) (.slice (fA A5) nr (fc c5))).2
                 clear hwz)
              | (obtain ⟨wz, hwz⟩ : ∃ W, W = (w5.setCell ⟨w3.heap.size, 0, none⟩ (.int .i64 xr)).setCell ⟨w3.heap.size, 1, none⟩ (.slice (fA A5) nr (fc c5)) := ⟨_, rfl⟩
                 rw [← hwz]
                 have XZ := Lib.hid (show Below w0.heap.size w0 wz from by rw [hwz]; exact (B5.out.setCell (p := ⟨w3.heap.size, 0, none⟩) X3.out.size _).setCell (p := ⟨w3.heap.size, 1, none⟩) X3.out.size _)
                 have MZ := Lib.hid (show OwnM wz w0.heap.size w4.heap.size A5 l c5 s from by rw [hwz]; exact (M5s.out.two Z5 (.inl (Nat.lt_succ_self _))).mono (Nat.le_succ_of_le X3.out.size) (Nat.le_refl _))
                 have hz4 : w4.heap.size ≤ wz.heap.size := by rw [hwz]; simp [World.setCell]; omega
                 have y0 : wz.cell? ⟨w3.heap.size, 0, none⟩ = some (.int .i64 xr) := by rw [hwz]; exact (cells_end n0 n1' (.int .i64 xr) (.slice (fA A5) nr (fc c5))).1
                 have y1 : wz.cell? ⟨w3.heap.size, 1, none⟩ = some (.slice (fA A5) nr (fc c5)) := by rw [hwz]; exact (cells_end n0 n1' (.int .i64 xr) (.slice (fA A5) nr (fc c5))).2
                 clear hwz)
            have q0 := (F0.out.below XZ.out).at_ (b := b + 1 + 1) (o := 0) (V := .int .i64 0) (by simp)
            have q1 := (F0.out.below XZ.out).at_ (b := b + 1 + 1) (o := 1) (V := .slice none 0 0) (by simp)
            have f0 := (F0.out.below XZ.out).fr (b := b + 1 + 1) (o := 0) (V := .int .i64 0) (by simp)
            have f1 := (F0.out.below XZ.out).fr (b := b + 1 + 1) (o := 1) (V := .slice none 0 0) (by simp)
            have hres := cells_end q0 q1 (.int .i64 xr) (.slice (fA A5) nr (fc c5))
            go_wp2_with fail
            refine bodyPost_ret (v := .tuple #[.agg #[.int .i64 xr, .slice (fA A5) nr (fc c5)], .int .i64 kr]) (by simp [results, Try.results39, go_sem, hres.1, hres.2]) rfl ?_
            exact RetNC.mk (V := w0.heap.size) HR1x.out HR2x.out rfl HR3x.out (Hb0.out.trans (XZ.out.mono Hb0.out.size)) (by rw [Hbe.out]; omega) (by rw [HZ.out]; omega) (HR4x.out _ _ _ _ _ MZ.out) hz4
end Go.Proofs.Ytejlkobieohgfaa
