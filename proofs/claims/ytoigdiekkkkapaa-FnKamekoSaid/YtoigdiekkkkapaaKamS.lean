/- spec.KamekoUp. -/
import Derived.Test.YtoigdiekkkkapaaKam
import Derived.Test.YtoigdiekkkkapaaSumL
import Derived.Lib.QuietBelow
namespace Go.Proofs.Ytoigdiekkkkapaa
open Go.RowKit
set_option linter.unusedVariables false

theorem asc_take {xss : List (List Int)} (h : Asc xss) (k : Nat) : Asc (xss.take k) := List.Pairwise.sublist (List.take_sublist k xss) h
theorem ups_step {xss : List (List Int)} {k : Nat} {x : List Int} (h : xss[k]? = some x) (ha : Asc xss) : oddL ((xss.take k).map upW ++ [upW x]) = (xss.take (k + 1)).map upW := by
  rw [← ups_take_succ h]
  exact oddL_of_asc (up_asc (asc_take ha _))

set_option maxRecDepth 100000 in
set_option maxHeartbeats 1000000 in
theorem sKamekoUp (v : Int) (A : Option Addr) (n c : Nat) (xss : List (List Int)) (w : World) (h : RdL w w.heap.size A n c xss) (hn : n ≤ 2000000) (ht : totalL xss ≤ 2000000) :
    Calls Try.prog 11 #[.agg #[.int .i64 v, .slice A n c]] w (RetNC (kamO v xss).1 (kamO v xss).2.1.length (kamO v xss).2.1 (kamO v xss).2.2 w) := by
  obtain ⟨w0, b, hw0, hbe, hb0, hz0, hF⟩ := start22 w (.int .i64 v) (.slice A n c) (.int .i64 0) (.slice none 0 0) 26 26
  have HL := Lib.hid h.len
  have H := Lib.hid (rdL_here h hb0); clear h
  have Hw := Lib.hid hw0; clear hw0
  have Hbe := Lib.hid hbe; clear hbe
  have Hb0 := Lib.hid hb0; clear hb0
  have HZ := Lib.hid hz0; clear hz0
  have F0 := Lib.hid hF; clear hF
  obtain ⟨r1, hr1⟩ : ∃ r, r = polB v xss := ⟨_, rfl⟩
  have HR1 := Lib.hid hr1; clear hr1
  go_enter Try.func11, Try.ntmps11
  go_wp2_with fail
  rw [← Hw.out, ← Hbe.out]
  have k0 := F0.out.at_ (b := b) (o := 0) (V := .int .i64 v) (by simp)
  have k1 := F0.out.at_ (b := b) (o := 1) (V := .slice A n c) (by simp)
  refine (l08Is_any v A n c xss _ H.out hn ht).mono ?_
  rintro e w1 ⟨rfl, hb1⟩
  rw [← HR1.out]
  have X1 := Lib.hid hb1; clear hb1
  clear k0 k1
  have k0 := (F0.out.below X1.out).at_ (b := b) (o := 0) (V := .int .i64 v) (by simp)
  have k1 := (F0.out.below X1.out).at_ (b := b) (o := 1) (V := .slice A n c) (by simp)
  have q0 := (F0.out.below X1.out).at_ (b := b + 1) (o := 0) (V := .int .i64 0) (by simp)
  have q1 := (F0.out.below X1.out).at_ (b := b + 1) (o := 1) (V := .slice none 0 0) (by simp)
  have f0 := (F0.out.below X1.out).fr (b := b + 1) (o := 0) (V := .int .i64 0) (by simp)
  have f1 := (F0.out.below X1.out).fr (b := b + 1) (o := 1) (V := .slice none 0 0) (by simp)
  cases r1
  · have HV := Lib.hid (kamO_bad HR1.out.symm)
    have hres := cells_end q0 q1 (.int .i64 0) (.slice none 0 0)
    go_wp2_with fail
    refine bodyPost_ret (v := .tuple #[.agg #[.int .i64 0, .slice none 0 0], .int .i64 1]) (by simp [results, Try.results11, go_sem, hres.1, hres.2]) rfl ?_
    exact RetNC.bad (by rw [HV.out]) (by rw [HV.out]) (by rw [HV.out]) (Hb0.out.trans (X1.out.mono Hb0.out.size)) (by rw [Hbe.out]; omega)
  · have HP := Lib.hid (polF_of HR1.out.symm)
    have hv1 := HP.out.lo
    have hv2 := HP.out.hi
    obtain ⟨d, hd⟩ : ∃ d, d = degL xss := ⟨_, rfl⟩
    have hd0 : 0 ≤ d ∧ d ≤ 40 := by rw [hd]; exact HP.out.deg.2
    obtain ⟨hd0, hd1⟩ := hd0
    have hw1 : IntKind.i64.wrap (2 * d) = 2 * d := by rw [IntKind.wrap_i64]; omega
    have hw2 : IntKind.i64.wrap (2 * d + v) = 2 * d + v := by rw [IntKind.wrap_i64]; omega
    have HD := Lib.hid hd; clear hd
    have hcase : (Hid (n = 0)) ∨ (Hid (0 < n) ∧ Hid (40 < 2 * d + v)) ∨ (Hid (0 < n) ∧ Hid (2 * d + v ≤ 40)) := by
      by_cases h1 : n = 0
      · exact .inl (Lib.hid h1)
      · by_cases h2 : 40 < 2 * d + v
        · exact .inr (.inl ⟨Lib.hid (by omega), Lib.hid h2⟩)
        · exact .inr (.inr ⟨Lib.hid (by omega), Lib.hid (by omega)⟩)
    go_wp2_with fail
    have g0 := cell_regrown k0
    have g1 := cell_regrown k1
    have Hdg := fun (W : World) (hB : Below w1.heap.size w1 W) => Lib.hid (show Calls Try.prog 29 #[.slice A n c] W (RetIb (degL xss) W) from (l08Degree_any A n c _ xss W (rdL_here H.out (X1.out.trans (hB.mono X1.out.size))) hn ht).mono fun e w' h => ⟨h.1, by rw [h.2]; exact Below.refl _ _⟩)
    rw [← HD.out] at Hdg
    rcases hcase with hA | ⟨hA, hB⟩ | ⟨hA, hB⟩
    rotate_left
    · have hlim : decide (40 < 2 * d + v) = true := decide_eq_true hB.out
      have hp0 : decide ((0 : Int) < (n : Int)) = true := by have := hA.out; simp; omega
      have hp1 : decide (0 < n) = true := by have := hA.out; simp; omega
      have HV := Lib.hid (kamO_lim HR1.out.symm (by rw [HL.out]; exact hA.out) (by rw [← HD.out]; exact hB.out))
      refine wp_region_quiet_below (by kernel_rfl) (by kernel_rfl) ?_
      repeat (go_big_quiet_step ((go_at_call 29; exact Calls.regrown_of ((Hdg _ (below_regrown _ _ _)).out))))
      refine wpQuiet_nil ?_
      intro _ hw'
      obtain ⟨⟨dq, osq⟩, hw''⟩ := hw'
      subst hw''
      have hb2 := below_regrown w1 dq osq
      obtain ⟨w2, hwq⟩ : ∃ W, W = Sort.grow (redrawn w1 dq) osq := ⟨_, rfl⟩
      rw [← hwq] at hb2 ⊢
      clear hwq
      have X2 := Lib.hid (X1.out.trans (hb2.mono X1.out.size))
      clear g0 g1 Hdg k0 k1 q0 q1 f0 f1
      have q0 := (F0.out.below X2.out).at_ (b := b + 1) (o := 0) (V := .int .i64 0) (by simp)
      have q1 := (F0.out.below X2.out).at_ (b := b + 1) (o := 1) (V := .slice none 0 0) (by simp)
      have f0 := (F0.out.below X2.out).fr (b := b + 1) (o := 0) (V := .int .i64 0) (by simp)
      have f1 := (F0.out.below X2.out).fr (b := b + 1) (o := 1) (V := .slice none 0 0) (by simp)
      have hres := cells_end q0 q1 (.int .i64 0) (.slice none 0 0)
      go_wp2_with fail
      refine bodyPost_ret (v := .tuple #[.agg #[.int .i64 0, .slice none 0 0], .int .i64 3]) (by simp [results, Try.results11, go_sem, hres.1, hres.2]) rfl ?_
      exact RetNC.bad (by rw [HV.out]) (by rw [HV.out]) (by rw [HV.out]) (Hb0.out.trans (X2.out.mono Hb0.out.size)) (by rw [Hbe.out]; omega)
    have hlim : decide (40 < 2 * d + v) = false := decide_eq_false (by have := hB.out; omega)
    have hp0 : decide ((0 : Int) < (n : Int)) = true := by have := hA.out; simp; omega
    have hp1 : decide (0 < n) = true := by have := hA.out; simp; omega
    have HV := Lib.hid (kamO_ok HR1.out.symm (.inr (by rw [← HD.out]; have := hB.out; omega)))
    refine wp_region_quiet_below (by kernel_rfl) (by kernel_rfl) ?_
    repeat (go_big_quiet_step ((go_at_call 29; exact Calls.regrown_of ((Hdg _ (below_regrown _ _ _)).out))))
    refine wpQuiet_nil ?_
    intro _ hw'
    obtain ⟨⟨dq, osq⟩, hw''⟩ := hw'
    subst hw''
    have hb2 := below_regrown w1 dq osq
    obtain ⟨w2, hwq⟩ : ∃ W, W = Sort.grow (redrawn w1 dq) osq := ⟨_, rfl⟩
    rw [← hwq] at hb2 ⊢
    clear hwq
    clear hlim
    rotate_left
    have hp0 : decide ((0 : Int) < (n : Int)) = false := by have := hA.out; simp; omega
    have hp1 : decide (0 < n) = false := by have := hA.out; simp; omega
    have HV := Lib.hid (kamO_ok HR1.out.symm (.inl (by rw [HL.out]; exact hA.out)))
    refine wp_region_quiet_below (by kernel_rfl) (by kernel_rfl) ?_
    repeat (go_big_quiet_step (fail))
    refine wpQuiet_nil ?_
    intro _ hw'
    obtain ⟨⟨dq, osq⟩, hw''⟩ := hw'
    subst hw''
    have hb2 := below_regrown w1 dq osq
    obtain ⟨w2, hwq⟩ : ∃ W, W = Sort.grow (redrawn w1 dq) osq := ⟨_, rfl⟩
    rw [← hwq] at hb2 ⊢
    clear hwq
    all_goals
      have X2 := Lib.hid (X1.out.trans (hb2.mono X1.out.size))
      clear g0 g1 Hdg k0 k1 q0 q1 f0 f1 hb2 hw1 hw2 hp0 hp1
      have k0 := (F0.out.below X2.out).at_ (b := b) (o := 0) (V := .int .i64 v) (by simp)
      have k1 := (F0.out.below X2.out).at_ (b := b) (o := 1) (V := .slice A n c) (by simp)
      have hbz : b < w2.heap.size := by have := X2.out.size; rw [HZ.out] at this; omega
      have HS := Lib.hid (StL.start (Below.refl w2.heap.size w2) (Nat.le_refl _)).here
      have HX := Lib.hid X2.out.size
      go_wp2_with fail
      clear k0 k1 hbz
      go_loopw [4, 5] (fun o i wr => ∃ (k c' : Nat) (A' : Option Addr) (acc : List (List Int)), k ≤ n ∧ i = .int .i64 k ∧ o = .slice A' k c' ∧ Hid (acc = (xss.take k).map upW) ∧ Hid (StL w2 w2.heap.size wr wr.heap.size A' k c' acc)) (fun _ i _ => n - (intOf i).toNat)
      case atStart => exact ⟨0, _, _, [], Nat.zero_le _, rfl, rfl, Lib.hid (by simp), HS⟩
      case round =>
        clear HS
        obtain ⟨k, c', A', acc, hk, rfl, rfl, HA, HS⟩ := hrel
        have BO := Lib.hid (X2.out.trans (HS.out.bel.mono HX.out))
        have k0 := (F0.out.below BO.out).at_ (b := b) (o := 0) (V := .int .i64 v) (by simp)
        have k1 := (F0.out.below BO.out).at_ (b := b) (o := 1) (V := .slice A n c) (by simp)
        by_cases hlt : k < n
        · obtain ⟨ad, A3, n3, c3, x, rfl, hbk, hx, hcx, hr⟩ := (H.out.below BO.out).at_ hlt
          have HE := Lib.hid (HP.out.each x (List.mem_of_getElem? hx.out))
          have hn3 : n3 ≤ 4 := by have := HE.out.1; rw [hr.len] at this; omega
          have HL3 := Lib.hid hr.len
          have R3 := Lib.hid (hr.mono BO.out.size); clear hr
          have HS0 := Lib.hid (StS.start (Below.refl wr.heap.size wr) (Nat.le_refl _))
          obtain ⟨wz0, hwz0⟩ : ∃ W : World, W = wr := ⟨_, rfl⟩
          have hbr : b < wr.heap.size := by have := BO.out.size; rw [HZ.out] at this; omega
          have hbd : (ad.add k).block < wr.heap.size := by rw [block_of_add]; exact Nat.lt_of_lt_of_le hbk BO.out.size
          have hk0 : (0 : Int) ≤ (k : Int) := by omega
          have hkn : (k : Int) < (n : Int) := by omega
          have K1 := Lib.hid k1
          have KX := Lib.hid hcx
          go_wp2_with fail
          go_loopw [6, 7] (fun y i wz => ∃ (j c5 : Nat) (A5 : Option Addr), j ≤ n3 ∧ i = .int .i64 j ∧ y = .slice A5 j c5 ∧ Hid (StS wz0 wz0.heap.size wz A5 j c5 (upW (x.take j)))) (fun _ i _ => n3 - (intOf i).toNat)
          case atStart => exact ⟨0, _, _, Nat.zero_le _, rfl, rfl, by rw [hwz0]; exact HS0⟩
          case round =>
            clear HS0 k0 k1 hcx
            subst hwz0
            obtain ⟨j, c5, A5, hj, rfl, rfl, HY⟩ := hrel
            have k1 := bcell HY.out.bel hbr K1.out
            have kx := bcellP HY.out.bel hbd KX.out
            by_cases hjt : j < n3
            · obtain ⟨ad3, z, rfl, hbz, hz, hcz⟩ := (R3.out.below HY.out.bel).at_ hjt
              obtain ⟨hz0, hz40⟩ := HE.out.2.1 z (List.mem_of_getElem? hz.out)
              have HU := Lib.hid (up_take_succ hz.out)
              go_wp2_with (at_builtin; refine wpList_pushI rfl (.tmp 48) (.tmp 59) rfl rfl rfl HY.out (by omega) ?_)
              intro A6 c6 w6 hs6 _
              rw [← HU.out] at hs6
              have HS6 := Lib.hid hs6; clear hs6
              go_wp2_with fail
              go_roundw
              case rel => exact ⟨j + 1, c6, A6, by omega, by go_num, rfl, HS6⟩
              case measure => simp [intOf]; omega
            · obtain rfl : j = n3 := by omega
              have hU : upW (x.take j) = upW x := by rw [List.take_of_length_le (by rw [HL3.out]; exact Nat.le_refl _)]
              have hs7 := HY.out
              rw [hU] at hs7
              have HS7 := Lib.hid hs7
              clear hU hs7
              have HT := Lib.hid (HS.out.call HS7.out.bel)
              have HUs := Lib.hid (ups_step hx.out HP.out.asc)
              have HUa := Lib.hid (up_asc (asc_take HP.out.asc k))
              have HUt : Hid (totalL ((xss.take k).map upW) ≤ 8000) := Lib.hid (by
                rw [up_total]
                exact Nat.le_trans (totalL_take_le _ _) HP.out.tot)
              have hacc := HA.out
              subst hacc
              have hUx : (upW x).length ≤ 4 := by simp only [upW, List.length_map]; rw [HL3.out]; exact hn3
              have HUx := Lib.hid hUx; clear hUx
              have Hsum := Lib.hid (l01Sum_any A' _ k c' 1 1 ((xss.take k).map upW) [upW x] _ ((HT.out.rd).alloc _) (rdL_single HS7.out.own.rd (Nat.le_refl _)) (by omega) (by omega) (by have := HUt.out; omega) (by have := HUx.out; simp [totalL]; omega) HUa.out (by simp [Asc]))
              rw [HUs.out] at Hsum
              have HXa := Lib.hid ((Below.refl _ _).alloc (Nat.le_refl wr.heap.size) (.cells #[.slice A5 j c5] 31))
              go_wp2_with fail
              refine Hsum.out.mono ?_
              rintro e w9 ⟨A9, c9, rfl, ho9, hb9⟩
              have hl9 : ((xss.take (k + 1)).map upW).length = k + 1 := by rw [List.length_map, List.length_take, HL.out]; omega
              rw [hl9] at ho9 ⊢
              have HX9 := Lib.hid (HXa.out.trans (hb9.mono HXa.out.size))
              have hzV : w2.heap.size ≤ wr.heap.size := HT.out.size
              have HS9 := Lib.hid (show StL w2 w2.heap.size w9 w9.heap.size A9 (k + 1) c9 ((xss.take (k + 1)).map upW) from
                ⟨ho9.mono (Nat.le_trans hzV HXa.out.size) (Nat.le_refl _), HT.out.bel.trans (HX9.out.mono hzV), Nat.le_trans hzV HX9.out.size, Nat.le_refl _⟩)
              clear ho9 hb9 hl9 hzV
              go_wp2_with fail
              go_roundw
              case rel => exact ⟨k + 1, c9, A9, _, by omega, by go_num, rfl, Lib.hid rfl, HS9⟩
              case measure => simp [intOf]; omega
        · obtain rfl : k = n := by omega
          have q0 := (F0.out.below BO.out).at_ (b := b + 1) (o := 0) (V := .int .i64 0) (by simp)
          have q1 := (F0.out.below BO.out).at_ (b := b + 1) (o := 1) (V := .slice none 0 0) (by simp)
          have f0 := (F0.out.below BO.out).fr (b := b + 1) (o := 0) (V := .int .i64 0) (by simp)
          have f1 := (F0.out.below BO.out).fr (b := b + 1) (o := 1) (V := .slice none 0 0) (by simp)
          have hres := cells_end q0 q1 (.int .i64 v) (.slice A' k c')
          have HAx : Hid (acc = xss.map upW) := Lib.hid (by rw [HA.out, List.take_of_length_le (by rw [HL.out]; exact Nat.le_refl _)])
          have hbV : b + 1 < w2.heap.size := by have := HX.out; rw [HZ.out] at this; omega
          go_wp2_with fail
          refine bodyPost_ret (v := .tuple #[.agg #[.int .i64 v, .slice A' k c'], .int .i64 0]) (by simp [results, Try.results11, go_sem, hres.1, hres.2]) rfl ?_
          exact RetNC.mk (V := w2.heap.size) (by rw [HV.out]) (by rw [HV.out]; simp [HL.out]) (by rw [HV.out]; exact HAx.out) (by rw [HV.out]) (Hb0.out.trans (BO.out.mono Hb0.out.size)) (by rw [Hbe.out]; omega) hbV (HS.out.own.m (Nat.le_refl _)) (Nat.le_refl _)
end Go.Proofs.Ytoigdiekkkkapaa
