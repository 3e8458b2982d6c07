/- impl.KamekoUp. -/
import Derived.Test.YtoigdiekkkkapaaKam
import Derived.Lib.QuietBelow
import Derived.Test.YtoigdiekkkkapaaKmp
import Derived.Test.YtoigdiekkkkapaaSumL
namespace Go.Proofs.Ytoigdiekkkkapaa
open Go.RowKit
set_option linter.unusedVariables false

set_option maxRecDepth 100000 in
set_option maxHeartbeats 1000000 in
theorem iKamekoUp (v : Int) (A : Option Addr) (n c : Nat) (xss : List (List Int)) (w : World) (h : RdL w w.heap.size A n c xss) (hn : n ≤ 2000000) (ht : totalL xss ≤ 2000000) :
    Calls Try.prog 10 #[.agg #[.int .i64 v, .slice A n c]] w (RetNC (kamO v xss).1 (kamO v xss).2.1.length (kamO v xss).2.1 (kamO v xss).2.2 w) := by
  obtain ⟨w0, b, hw0, hbe, hb0, hz0, hF⟩ := start22 w (.int .i64 v) (.slice A n c) (.int .i64 0) (.slice none 0 0) 26 26
  have HL := Lib.hid h.len
  have H := Lib.hid (rdL_here h hb0); clear h
  have Hw := Lib.hid hw0; clear hw0
  have Hbe := Lib.hid hbe; clear hbe
  have Hb0 := Lib.hid hb0; clear hb0
  have HZ := Lib.hid hz0; clear hz0
  have F0 := Lib.hid hF; clear hF
  obtain ⟨r1, hr1⟩ : ∃ r, r = polB v xss := ⟨_, rfl⟩
  have HR1 := Lib.hid hr1; clear hr1
  go_enter Try.func10, Try.ntmps10
  go_wp2_with fail
  rw [← Hw.out, ← Hbe.out]
  have k0 := F0.out.at_ (b := b) (o := 0) (V := .int .i64 v) (by simp)
  have k1 := F0.out.at_ (b := b) (o := 1) (V := .slice A n c) (by simp)
  refine (iIsPoly v A n c xss _ H.out hn ht).mono ?_
  rintro e w1 ⟨rfl, hb1⟩
  rw [← HR1.out]
  have X1 := Lib.hid hb1; clear hb1
  clear k0 k1
  have k0 := (F0.out.below X1.out).at_ (b := b) (o := 0) (V := .int .i64 v) (by simp)
  have k1 := (F0.out.below X1.out).at_ (b := b) (o := 1) (V := .slice A n c) (by simp)
  have q0 := (F0.out.below X1.out).at_ (b := b + 1) (o := 0) (V := .int .i64 0) (by simp)
  have q1 := (F0.out.below X1.out).at_ (b := b + 1) (o := 1) (V := .slice none 0 0) (by simp)
  have f0 := (F0.out.below X1.out).fr (b := b + 1) (o := 0) (V := .int .i64 0) (by simp)
  have f1 := (F0.out.below X1.out).fr (b := b + 1) (o := 1) (V := .slice none 0 0) (by simp)
  cases r1
  · have HV := Lib.hid (kamO_bad HR1.out.symm)
    have hres := cells_end q0 q1 (.int .i64 0) (.slice none 0 0)
    go_wp2_with fail
    refine bodyPost_ret (v := .tuple #[.agg #[.int .i64 0, .slice none 0 0], .int .i64 1]) (by simp [results, Try.results10, go_sem, hres.1, hres.2]) rfl ?_
    exact RetNC.bad (by rw [HV.out]) (by rw [HV.out]) (by rw [HV.out]) (Hb0.out.trans (X1.out.mono Hb0.out.size)) (by rw [Hbe.out]; omega)
  · have HP := Lib.hid (polF_of HR1.out.symm)
    have hv1 := HP.out.lo
    have hv2 := HP.out.hi
    obtain ⟨d, hd⟩ : ∃ d, d = degL xss := ⟨_, rfl⟩
    have hd0 : 0 ≤ d ∧ d ≤ 40 := by rw [hd]; exact HP.out.deg.2
    obtain ⟨hd0, hd1⟩ := hd0
    have hw1 : IntKind.i64.wrap (2 * d) = 2 * d := by rw [IntKind.wrap_i64]; omega
    have hw2 : IntKind.i64.wrap (2 * d + v) = 2 * d + v := by rw [IntKind.wrap_i64]; omega
    have HD := Lib.hid hd; clear hd
    have hcase : (Hid (n = 0)) ∨ (Hid (0 < n) ∧ Hid (40 < 2 * d + v)) ∨ (Hid (0 < n) ∧ Hid (¬ 40 < 2 * d + v)) := by
      by_cases h1 : n = 0
      · exact .inl (Lib.hid h1)
      · by_cases h2 : 40 < 2 * d + v
        · exact .inr (.inl ⟨Lib.hid (by omega), Lib.hid h2⟩)
        · exact .inr (.inr ⟨Lib.hid (by omega), Lib.hid h2⟩)
    go_wp2_with fail
    have g0 := cell_regrown k0
    have g1 := cell_regrown k1
    have Hdg := fun (W : World) (hB : Below w1.heap.size w1 W) => Lib.hid (degreeP_any v A n c _ xss W (rdL_here H.out (X1.out.trans (hB.mono X1.out.size))) (Nat.le_refl _) hn ht)
    rw [← HD.out] at Hdg
    rcases hcase with hA | ⟨hA, hB⟩ | ⟨hA, hB⟩
    rotate_left
    · have hlim : decide (40 < 2 * d + v) = true := decide_eq_true hB.out
      have Hc := fun (W : World) (hB : Below w1.heap.size w1 W) => Lib.hid (isZeroP_no v A n c W hA.out hn)
      have HV := Lib.hid (kamO_lim HR1.out.symm (by rw [HL.out]; exact hA.out) (by rw [← HD.out]; exact hB.out))
      refine wp_region_quiet_below (by kernel_rfl) (by kernel_rfl) ?_
      repeat (go_big_quiet_step ((first | (go_at_call 27; exact Calls.regrown_of ((Hc _ (below_regrown _ _ _)).out)) | (go_at_call 28; exact Calls.regrown_of ((Hdg _ (below_regrown _ _ _)).out)))))
      refine wpQuiet_nil ?_
      intro _ hw'
      obtain ⟨⟨dq, osq⟩, hw''⟩ := hw'
      subst hw''
      have hb2 := below_regrown w1 dq osq
      obtain ⟨w2, hwq⟩ : ∃ W, W = Sort.grow (redrawn w1 dq) osq := ⟨_, rfl⟩
      rw [← hwq] at hb2 ⊢
      clear hwq
      have X2 := Lib.hid (X1.out.trans (hb2.mono X1.out.size))
      clear g0 g1 Hc Hdg k0 k1 q0 q1 f0 f1
      have q0 := (F0.out.below X2.out).at_ (b := b + 1) (o := 0) (V := .int .i64 0) (by simp)
      have q1 := (F0.out.below X2.out).at_ (b := b + 1) (o := 1) (V := .slice none 0 0) (by simp)
      have f0 := (F0.out.below X2.out).fr (b := b + 1) (o := 0) (V := .int .i64 0) (by simp)
      have f1 := (F0.out.below X2.out).fr (b := b + 1) (o := 1) (V := .slice none 0 0) (by simp)
      have hres := cells_end q0 q1 (.int .i64 0) (.slice none 0 0)
      go_wp2_with fail
      refine bodyPost_ret (v := .tuple #[.agg #[.int .i64 0, .slice none 0 0], .int .i64 3]) (by simp [results, Try.results10, go_sem, hres.1, hres.2]) rfl ?_
      exact RetNC.bad (by rw [HV.out]) (by rw [HV.out]) (by rw [HV.out]) (Hb0.out.trans (X2.out.mono Hb0.out.size)) (by rw [Hbe.out]; omega)
    have hlim : decide (40 < 2 * d + v) = false := decide_eq_false (by have := hB.out; omega)
    have Hc := fun (W : World) (hB : Below w1.heap.size w1 W) => Lib.hid (isZeroP_no v A n c W hA.out hn)
    have HV := Lib.hid (kamO_ok HR1.out.symm (.inr (by rw [← HD.out]; have := hB.out; omega)))
    refine wp_region_quiet_below (by kernel_rfl) (by kernel_rfl) ?_
    repeat (go_big_quiet_step ((first | (go_at_call 27; exact Calls.regrown_of ((Hc _ (below_regrown _ _ _)).out)) | (go_at_call 28; exact Calls.regrown_of ((Hdg _ (below_regrown _ _ _)).out)))))
    refine wpQuiet_nil ?_
    intro _ hw'
    obtain ⟨⟨dq, osq⟩, hw''⟩ := hw'
    subst hw''
    have hb2 := below_regrown w1 dq osq
    obtain ⟨w2, hwq⟩ : ∃ W, W = Sort.grow (redrawn w1 dq) osq := ⟨_, rfl⟩
    rw [← hwq] at hb2 ⊢
    clear hwq
    clear hlim
    rotate_left
    have Hc := fun (W : World) (hB : Below w1.heap.size w1 W) => Lib.hid (show Calls Try.prog 27 #[.agg #[.int .i64 v, .slice A n c]] W (RetBb true W) from by
      have := isZeroP_any v A n c W hn
      rwa [decide_eq_true hA.out] at this)
    have HV := Lib.hid (kamO_ok HR1.out.symm (.inl (by rw [HL.out]; exact hA.out)))
    refine wp_region_quiet_below (by kernel_rfl) (by kernel_rfl) ?_
    repeat (go_big_quiet_step ((go_at_call 27; exact Calls.regrown_of ((Hc _ (below_regrown _ _ _)).out))))
    refine wpQuiet_nil ?_
    intro _ hw'
    obtain ⟨⟨dq, osq⟩, hw''⟩ := hw'
    subst hw''
    have hb2 := below_regrown w1 dq osq
    obtain ⟨w2, hwq⟩ : ∃ W, W = Sort.grow (redrawn w1 dq) osq := ⟨_, rfl⟩
    rw [← hwq] at hb2 ⊢
    clear hwq
    all_goals
      have X2 := Lib.hid (X1.out.trans (hb2.mono X1.out.size))
      clear g0 g1 Hc Hdg k0 k1 q0 q1 f0 f1 hb2 hw1 hw2
      have k0 := (F0.out.below X2.out).at_ (b := b) (o := 0) (V := .int .i64 v) (by simp)
      have k1 := (F0.out.below X2.out).at_ (b := b) (o := 1) (V := .slice A n c) (by simp)
      obtain ⟨w3, hw3⟩ : ∃ W, W = w2.alloc (.cells #[.int .i64 v, .slice none 0 0] 26) := ⟨_, rfl⟩
      obtain ⟨bo, hbo⟩ : ∃ B, B = w2.heap.size := ⟨_, rfl⟩
      have hCo : Cells [(bo, 1, .slice none 0 0), (bo, 0, .int .i64 v)] w3 := by
        rw [hw3]
        exact (Cells.nil.alloc2 (.int .i64 v) (.slice none 0 0) 26 hbo).sub (by simp)
      have hz3 : w3.heap.size = bo + 1 := by rw [hw3, hbo]; simp
      have hB3 : Below w0.heap.size w0 w3 := by rw [hw3]; exact X2.out.alloc X2.out.size _
      have hbo0 : w0.heap.size ≤ bo := by rw [hbo]; exact X2.out.size
      have Hw3 := Lib.hid hw3; clear hw3
      have Hbo := Lib.hid hbo; clear hbo
      have CO := Lib.hid hCo; clear hCo
      have BO := Lib.hid hB3; clear hB3
      have HO : Hid (OwnL w3 (bo + 1) w3.heap.size none 0 0 []) := Lib.hid OwnL.nil
      have hbz : b < w2.heap.size := by have := X2.out.size; rw [HZ.out] at this; omega
      have hbb : b < bo ∧ b + 1 < bo := by rw [HZ.out] at hbo0; omega
      obtain ⟨hbb1, hbb2⟩ := hbb
      go_wp2_with fail
      rw [← Hw3.out, ← Hbo.out]
      clear k0 k1 hbz
      go_loopw [35] (fun i wr => ∃ (k c' : Nat) (A' : Option Addr) (acc : List (List Int)), k ≤ n ∧ i = .int .i64 k ∧ Hid (acc = (xss.take k).map upW) ∧ Hid (Cells [(bo, 1, .slice A' k c'), (bo, 0, .int .i64 v)] wr) ∧ Hid (OwnL wr (bo + 1) wr.heap.size A' k c' acc) ∧ Hid (Below w0.heap.size w0 wr) ∧ bo + 1 ≤ wr.heap.size) (fun i _ => n - (intOf i).toNat)
      case atStart => exact ⟨0, 0, none, [], Nat.zero_le _, rfl, Lib.hid (by simp), CO, HO, BO, by omega⟩
      case round =>
        clear CO HO BO hz3
        obtain ⟨k, c', A', acc, hk, rfl, HA, CO, HO, BO, hzr⟩ := hrel
        by_cases hlt : k < n
        · obtain ⟨ad, A3, n3, c3, x, rfl, hbk, hx, hcx, hr⟩ := (H.out.below BO.out).at_ hlt
          have HE := Lib.hid (HP.out.each x (List.mem_of_getElem? hx.out))
          have hn3 : n3 ≤ 4 := by have := HE.out.1; rw [hr.len] at this; omega
          have HL3 := Lib.hid hr.len
          have R3 := Lib.hid (hr.mono BO.out.size); clear hr
          have HS0 := Lib.hid (StS.start (Below.refl wr.heap.size wr) (Nat.le_refl _))
          obtain ⟨wz0, hwz0⟩ : ∃ W : World, W = wr := ⟨_, rfl⟩
          go_wp2_with fail
          go_loopw [7, 42] (fun y i wz => ∃ (j c5 : Nat) (A5 : Option Addr), j ≤ n3 ∧ i = .int .i64 j ∧ y = .slice A5 j c5 ∧ Hid (StS wz0 wz0.heap.size wz A5 j c5 (upW (x.take j)))) (fun _ i _ => n3 - (intOf i).toNat)
          case atStart => exact ⟨0, _, _, Nat.zero_le _, rfl, rfl, by rw [hwz0]; exact HS0⟩
          case round =>
            clear HS0
            subst hwz0
            obtain ⟨j, c5, A5, hj, rfl, rfl, HS⟩ := hrel
            by_cases hjt : j < n3
            · obtain ⟨ad3, z, rfl, hbz, hz, hcz⟩ := (R3.out.below HS.out.bel).at_ hjt
              obtain ⟨hz0, hz40⟩ := HE.out.2.1 z (List.mem_of_getElem? hz.out)
              have HU := Lib.hid (up_take_succ hz.out)
              go_wp2_with (at_builtin; refine wpList_pushI rfl (.tmp 46) (.tmp 50) rfl rfl rfl HS.out (by omega) ?_)
              intro A6 c6 w6 hs6 _
              rw [← HU.out] at hs6
              have HS6 := Lib.hid hs6; clear hs6
              go_wp2_with fail
              go_roundw
              case rel => exact ⟨j + 1, c6, A6, by omega, by go_num, rfl, HS6⟩
              case measure => simp [intOf]; omega
            · obtain rfl : j = n3 := by omega
              have hU : upW (x.take j) = upW x := by rw [List.take_of_length_le (by rw [HL3.out]; exact Nat.le_refl _)]
              have hs7 := HS.out
              rw [hU] at hs7
              have HS7 := Lib.hid hs7
              have hC7 := CO.out.below hs7.bel
              have co1 := hC7.at_ (b := bo) (o := 1) (V := .slice A' k c') (by simp)
              have fo1 := hC7.fr (b := bo) (o := 1) (V := .slice A' k c') (by simp)
              have HT7 := Lib.hid (show StL wz0 (bo + 1) wr wz0.heap.size A' k c' acc from ⟨HO.out.below hs7.bel, hs7.bel.mono hzr, hzr, hs7.hi⟩)
              clear hs7 hU hC7
              go_wp2_with (at_builtin; refine wpList_pushL rfl (.tmp 54) (.tmp 56) rfl rfl rfl HT7.out HS7.out.own (by omega) ?_)
              intro A6 c6 w6 hs6 _ _
              have hC6 := CO.out.belowB hs6.bel (by simp)
              have k1 := hC6.at_ (b := bo) (o := 1) (V := .slice A' k c') (by simp)
              have fo6 := hC6.fr (b := bo) (o := 1) (V := .slice A' k c') (by simp)
              have HU2 := Lib.hid (ups_take_succ hx.out)
              obtain ⟨W6, hW6⟩ : ∃ W, W = w6.setCell ⟨bo, 1, none⟩ (.slice A6 (k + 1) c6) := ⟨_, rfl⟩
              have CO6 := Lib.hid (show Cells [(bo, 1, .slice A6 (k + 1) c6), (bo, 0, .int .i64 v)] W6 from by rw [hW6]; exact hC6.set (by simp) _)
              have HO6 := Lib.hid (show OwnL W6 (bo + 1) W6.heap.size A6 (k + 1) c6 (acc ++ [upW x]) from by
                rw [hW6]
                exact (hs6.own.mid (mid_setCell (p := ⟨bo, 1, none⟩) _ ⟨Nat.le_refl _, Nat.lt_succ_self _⟩) (Nat.le_refl _)).mono (Nat.le_refl _) (by simp [World.setCell]))
              have BO6 := Lib.hid (show Below w0.heap.size w0 W6 from by
                rw [hW6]
                exact (BO.out.trans (hs6.bel.mono (by omega))).setCell (p := ⟨bo, 1, none⟩) hbo0 _)
              have hz6 : bo + 1 ≤ W6.heap.size := by rw [hW6]; have := hs6.hi; have := hs6.lo; simp [World.setCell]; omega
              have HW6 := Lib.hid hW6
              clear hs6 hC6 hW6
              go_wp2_with fail
              rw [← HW6.out]
              go_roundw
              case rel => exact ⟨k + 1, c6, A6, _, by omega, by go_num, Lib.hid (by rw [HU2.out, ← HA.out]), CO6, HO6, BO6, hz6⟩
              case measure => simp [intOf]; omega
        · obtain rfl : k = n := by omega
          have k0 := CO.out.at_ (b := bo) (o := 0) (V := .int .i64 v) (by simp)
          have k1 := CO.out.at_ (b := bo) (o := 1) (V := .slice A' k c') (by simp)
          have q0 := (F0.out.below BO.out).at_ (b := b + 1) (o := 0) (V := .int .i64 0) (by simp)
          have q1 := (F0.out.below BO.out).at_ (b := b + 1) (o := 1) (V := .slice none 0 0) (by simp)
          have f0 := (F0.out.below BO.out).fr (b := b + 1) (o := 0) (V := .int .i64 0) (by simp)
          have f1 := (F0.out.below BO.out).fr (b := b + 1) (o := 1) (V := .slice none 0 0) (by simp)
          have hres := cells_end q0 q1 (.int .i64 v) (.slice A' k c')
          have HAx : Hid (acc = xss.map upW) := Lib.hid (by rw [HA.out, List.take_of_length_le (by rw [HL.out]; exact Nat.le_refl _)])
          go_wp2_with fail
          refine bodyPost_ret (v := .tuple #[.agg #[.int .i64 v, .slice A' k c'], .int .i64 0]) (by simp [results, Try.results10, go_sem, hres.1, hres.2]) rfl ?_
          exact RetNC.mk (V := bo + 1) (by rw [HV.out]) (by rw [HV.out]; simp [HL.out]) (by rw [HV.out]; exact HAx.out) (by rw [HV.out]) (Hb0.out.trans (BO.out.mono Hb0.out.size)) (by rw [Hbe.out]; omega) (by omega) (HO.out.m (Nat.le_refl _)) (Nat.le_refl _)
end Go.Proofs.Ytoigdiekkkkapaa

/- impl.KamekoDown. -/
namespace Go.Proofs.Ytoigdiekkkkapaa
open Go.RowKit
set_option linter.unusedVariables false

def kdmO (v : Int) (xss : List (List Int)) : Int × List (List Int) × Int := if polB v xss then (v, kd xss, 0) else (0, [], 1)
theorem kdmO_bad {v : Int} {xss : List (List Int)} (h : polB v xss = false) : kdmO v xss = (0, [], 1) := by simp [kdmO, h]
theorem kdmO_ok {v : Int} {xss : List (List Int)} (h : polB v xss = true) : kdmO v xss = (v, kd xss, 0) := by simp [kdmO, h]
theorem dn_take_succ {x : List Int} {j : Nat} {z : Int} (h : x[j]? = some z) : dnW (x.take (j + 1)) = dnW (x.take j) ++ [z / 2] := by
  rw [List.take_add_one, h]; simp [dnW]
theorem kd_take_succ {xss : List (List Int)} {k : Nat} {x : List Int} (h : xss[k]? = some x) : kd (xss.take (k + 1)) = kd (xss.take k) ++ (if oddX x then [dnW x] else []) := by
  rw [List.take_add_one, h, kd_app]
  congr 1
  simp only [Option.toList, kd]
  by_cases hx : oddX x = true
  · simp [hx]
  · simp [hx]
theorem odd_any (n : Int) (w : World) : Calls Try.prog 23 #[.int .i64 n] w (RetP (n.tmod 2 == 1) w) := by
  go_enter Try.func23, Try.ntmps23
  go_wp2_with fail
  go_ret
  exact RetP.mk rfl
theorem oddAll_any (A : Option Addr) (n c : Nat) (xs : List Int) (w : World) (h : RdS w w.heap.size A n c xs) (hn : n ≤ 2000000) (h0 : ∀ z ∈ xs, 0 ≤ z) :
    Calls Try.prog 22 #[.slice A n c, .func (.func 23) #[] #[]] w (RetBb (oddX xs) w) := by
  have hl := h.len
  refine (allI_any A n c xs _ _ _ w h hn (cond_of (fun x => x.tmod 2 == 1) (enters_of Try.func23 (by kernel_rfl) rfl) odd_any xs w)).mono ?_
  intro e w' hw
  rw [all_range xs (fun x => x % 2 == 1) _ n hl (fun j hj => by simp [List.getElem?_eq_getElem hj, Int.tmod_eq_emod_of_nonneg (h0 _ (List.getElem_mem hj))])] at hw
  exact hw

set_option maxRecDepth 100000 in
set_option maxHeartbeats 1000000 in
theorem iKamekoDown (v : Int) (A : Option Addr) (n c : Nat) (xss : List (List Int)) (w : World) (h : RdL w w.heap.size A n c xss) (hn : n ≤ 2000000) (ht : totalL xss ≤ 2000000) :
    Calls Try.prog 6 #[.agg #[.int .i64 v, .slice A n c]] w (RetNC (kdmO v xss).1 (kdmO v xss).2.1.length (kdmO v xss).2.1 (kdmO v xss).2.2 w) := by
  obtain ⟨w0, b, hw0, hbe, hb0, hz0, hF⟩ := start22 w (.int .i64 v) (.slice A n c) (.int .i64 0) (.slice none 0 0) 26 26
  have HL := Lib.hid h.len
  have H := Lib.hid (rdL_here h hb0); clear h
  have Hw := Lib.hid hw0; clear hw0
  have Hbe := Lib.hid hbe; clear hbe
  have Hb0 := Lib.hid hb0; clear hb0
  have HZ := Lib.hid hz0; clear hz0
  have F0 := Lib.hid hF; clear hF
  obtain ⟨r1, hr1⟩ : ∃ r, r = polB v xss := ⟨_, rfl⟩
  have HR1 := Lib.hid hr1; clear hr1
  go_enter Try.func6, Try.ntmps6
  go_wp2_with fail
  rw [← Hw.out, ← Hbe.out]
  have k0 := F0.out.at_ (b := b) (o := 0) (V := .int .i64 v) (by simp)
  have k1 := F0.out.at_ (b := b) (o := 1) (V := .slice A n c) (by simp)
  refine (iIsPoly v A n c xss _ H.out hn ht).mono ?_
  rintro e w1 ⟨rfl, hb1⟩
  rw [← HR1.out]
  have X1 := Lib.hid hb1; clear hb1
  clear k0 k1
  have k0 := (F0.out.below X1.out).at_ (b := b) (o := 0) (V := .int .i64 v) (by simp)
  have k1 := (F0.out.below X1.out).at_ (b := b) (o := 1) (V := .slice A n c) (by simp)
  have q0 := (F0.out.below X1.out).at_ (b := b + 1) (o := 0) (V := .int .i64 0) (by simp)
  have q1 := (F0.out.below X1.out).at_ (b := b + 1) (o := 1) (V := .slice none 0 0) (by simp)
  have f0 := (F0.out.below X1.out).fr (b := b + 1) (o := 0) (V := .int .i64 0) (by simp)
  have f1 := (F0.out.below X1.out).fr (b := b + 1) (o := 1) (V := .slice none 0 0) (by simp)
  cases r1
  · have HV := Lib.hid (kdmO_bad HR1.out.symm)
    have hres := cells_end q0 q1 (.int .i64 0) (.slice none 0 0)
    go_wp2_with fail
    refine bodyPost_ret (v := .tuple #[.agg #[.int .i64 0, .slice none 0 0], .int .i64 1]) (by simp [results, Try.results6, go_sem, hres.1, hres.2]) rfl ?_
    exact RetNC.bad (by rw [HV.out]) (by rw [HV.out]) (by rw [HV.out]) (Hb0.out.trans (X1.out.mono Hb0.out.size)) (by rw [Hbe.out]; omega)
  · have HP := Lib.hid (polF_of HR1.out.symm)
    have hv1 := HP.out.lo
    have hv2 := HP.out.hi
    have HV := Lib.hid (kdmO_ok HR1.out.symm)
    clear k0 k1 q0 q1 f0 f1
    have k0 := (F0.out.below X1.out).at_ (b := b) (o := 0) (V := .int .i64 v) (by simp)
    have k1 := (F0.out.below X1.out).at_ (b := b) (o := 1) (V := .slice A n c) (by simp)
    obtain ⟨w3, hw3⟩ : ∃ W, W = w1.alloc (.cells #[.int .i64 v, .slice none 0 0] 26) := ⟨_, rfl⟩
    obtain ⟨bo, hbo⟩ : ∃ B, B = w1.heap.size := ⟨_, rfl⟩
    have hCo : Cells [(bo, 1, .slice none 0 0), (bo, 0, .int .i64 v)] w3 := by
      rw [hw3]
      exact (Cells.nil.alloc2 (.int .i64 v) (.slice none 0 0) 26 hbo).sub (by simp)
    have hz3 : w3.heap.size = bo + 1 := by rw [hw3, hbo]; simp
    have hB3 : Below w0.heap.size w0 w3 := by rw [hw3]; exact X1.out.alloc X1.out.size _
    have hbo0 : w0.heap.size ≤ bo := by rw [hbo]; exact X1.out.size
    have Hw3 := Lib.hid hw3; clear hw3
    have Hbo := Lib.hid hbo; clear hbo
    have CO := Lib.hid hCo; clear hCo
    have BO := Lib.hid hB3; clear hB3
    have HO : Hid (OwnL w3 (bo + 1) w3.heap.size none 0 0 []) := Lib.hid OwnL.nil
    have hbz : b < w1.heap.size := by have := X1.out.size; rw [HZ.out] at this; omega
    have hbb : b < bo ∧ b + 1 < bo := by rw [HZ.out] at hbo0; omega
    obtain ⟨hbb1, hbb2⟩ := hbb
    go_wp2_with fail
    rw [← Hw3.out, ← Hbo.out]
    clear k0 k1 hbz
    go_loopw [20] (fun i wr => ∃ (k l c' : Nat) (A' : Option Addr) (acc : List (List Int)), k ≤ n ∧ l ≤ k ∧ i = .int .i64 k ∧ Hid (acc = kd (xss.take k)) ∧ Hid (Cells [(bo, 1, .slice A' l c'), (bo, 0, .int .i64 v)] wr) ∧ Hid (OwnL wr (bo + 1) wr.heap.size A' l c' acc) ∧ Hid (Below w0.heap.size w0 wr) ∧ bo + 1 ≤ wr.heap.size) (fun i _ => n - (intOf i).toNat)
    case atStart => exact ⟨0, 0, 0, none, [], Nat.zero_le _, Nat.le_refl _, rfl, Lib.hid (by simp [kd]), CO, HO, BO, by omega⟩
    case round =>
      clear CO HO BO hz3
      obtain ⟨k, l, c', A', acc, hk, hlk, rfl, HA, CO, HO, BO, hzr⟩ := hrel
      by_cases hlt : k < n
      · obtain ⟨ad, A3, n3, c3, x, rfl, hbk, hx, hcx, hr⟩ := (H.out.below BO.out).at_ hlt
        have HE := Lib.hid (HP.out.each x (List.mem_of_getElem? hx.out))
        have hn3 : n3 ≤ 4 := by have := HE.out.1; rw [hr.len] at this; omega
        have HL3 := Lib.hid hr.len
        have R3 := Lib.hid (hr.mono BO.out.size); clear hr
        go_wp2_with fail
        refine (oddAll_any A3 n3 c3 x wr R3.out (by omega) (fun z hz => (HE.out.2.1 z hz).1)).mono ?_
        rintro e w4 ⟨rfl, hb4⟩
        replace CO := Lib.hid (CO.out.below hb4)
        replace HO := Lib.hid ((HO.out.below hb4).mono (Nat.le_refl _) hb4.size)
        replace BO := Lib.hid (BO.out.trans (hb4.mono BO.out.size))
        replace R3 := Lib.hid ((R3.out.below hb4).mono hb4.size)
        have hzr4 : bo + 1 ≤ w4.heap.size := Nat.le_trans hzr hb4.size
        clear hb4 hzr
        by_cases hox : oddX x = true
        · have HU2 : Hid (kd (xss.take (k + 1)) = kd (xss.take k) ++ [dnW x]) := Lib.hid (by rw [kd_take_succ hx.out, if_pos hox])
          rw [hox]
          clear hox
          have HS0 := Lib.hid (StS.start (Below.refl w4.heap.size w4) (Nat.le_refl _))
          go_wp2_with fail
          go_loopw [7, 30] (fun y i wz => ∃ (j c5 : Nat) (A5 : Option Addr), j ≤ n3 ∧ i = .int .i64 j ∧ y = .slice A5 j c5 ∧ Hid (StS w4 w4.heap.size wz A5 j c5 (dnW (x.take j)))) (fun _ i _ => n3 - (intOf i).toNat)
          case atStart => exact ⟨0, _, _, Nat.zero_le _, rfl, rfl, HS0⟩
          case round =>
            clear HS0
            obtain ⟨j, c5, A5, hj, rfl, rfl, HS⟩ := hrel
            by_cases hjt : j < n3
            · obtain ⟨ad3, z, rfl, hbz, hz, hcz⟩ := (R3.out.below HS.out.bel).at_ hjt
              obtain ⟨hz0, hz40⟩ := HE.out.2.1 z (List.mem_of_getElem? hz.out)
              have HU := Lib.hid (dn_take_succ hz.out)
              go_wp2_with (at_builtin; refine wpList_pushI rfl (.tmp 34) (.tmp 37) rfl rfl rfl HS.out (by omega) ?_)
              intro A6 c6 w6 hs6 _
              rw [← HU.out] at hs6
              have HS6 := Lib.hid hs6; clear hs6
              go_wp2_with fail
              go_roundw
              case rel => exact ⟨j + 1, c6, A6, by omega, by go_num, rfl, HS6⟩
              case measure => simp [intOf]; omega
            · obtain rfl : j = n3 := by omega
              have hU : dnW (x.take j) = dnW x := by rw [List.take_of_length_le (by rw [HL3.out]; exact Nat.le_refl _)]
              have hs7 := HS.out
              rw [hU] at hs7
              have HS7 := Lib.hid hs7
              have hC7 := CO.out.below hs7.bel
              have co1 := hC7.at_ (b := bo) (o := 1) (V := .slice A' l c') (by simp)
              have fo1 := hC7.fr (b := bo) (o := 1) (V := .slice A' l c') (by simp)
              have HT7 := Lib.hid (show StL w4 (bo + 1) wr w4.heap.size A' l c' acc from ⟨HO.out.below hs7.bel, hs7.bel.mono hzr4, hzr4, hs7.hi⟩)
              clear hs7 hU hC7
              go_wp2_with (at_builtin; refine wpList_pushL rfl (.tmp 41) (.tmp 43) rfl rfl rfl HT7.out HS7.out.own (by omega) ?_)
              intro A6 c6 w6 hs6 _ _
              have hC6 := CO.out.belowB hs6.bel (by simp)
              have k1 := hC6.at_ (b := bo) (o := 1) (V := .slice A' l c') (by simp)
              have fo6 := hC6.fr (b := bo) (o := 1) (V := .slice A' l c') (by simp)
              obtain ⟨W6, hW6⟩ : ∃ W, W = w6.setCell ⟨bo, 1, none⟩ (.slice A6 (l + 1) c6) := ⟨_, rfl⟩
              have CO6 := Lib.hid (show Cells [(bo, 1, .slice A6 (l + 1) c6), (bo, 0, .int .i64 v)] W6 from by rw [hW6]; exact hC6.set (by simp) _)
              have HO6 := Lib.hid (show OwnL W6 (bo + 1) W6.heap.size A6 (l + 1) c6 (acc ++ [dnW x]) from by
                rw [hW6]
                exact (hs6.own.mid (mid_setCell (p := ⟨bo, 1, none⟩) _ ⟨Nat.le_refl _, Nat.lt_succ_self _⟩) (Nat.le_refl _)).mono (Nat.le_refl _) (by simp [World.setCell]))
              have BO6 := Lib.hid (show Below w0.heap.size w0 W6 from by
                rw [hW6]
                exact (BO.out.trans (hs6.bel.mono (by omega))).setCell (p := ⟨bo, 1, none⟩) hbo0 _)
              have hz6 : bo + 1 ≤ W6.heap.size := by rw [hW6]; have := hs6.hi; have := hs6.lo; simp [World.setCell]; omega
              have HW6 := Lib.hid hW6
              clear hs6 hC6 hW6
              go_wp2_with fail
              rw [← HW6.out]
              go_roundw
              case rel => exact ⟨k + 1, l + 1, c6, A6, _, by omega, by omega, by go_num, Lib.hid (by rw [HU2.out, ← HA.out]), CO6, HO6, BO6, hz6⟩
              case measure => simp [intOf]; omega
        · have hox' : oddX x = false := by simpa using hox
          have HU2 : Hid (kd (xss.take (k + 1)) = kd (xss.take k)) := Lib.hid (by rw [kd_take_succ hx.out, if_neg hox, List.append_nil])
          rw [hox']
          clear hox hox'
          go_wp2_with fail
          go_roundw
          case rel => exact ⟨k + 1, l, c', A', acc, by omega, by omega, by go_num, Lib.hid (by rw [HU2.out, ← HA.out]), CO, HO, BO, hzr4⟩
          case measure => simp [intOf]; omega
      · obtain rfl : k = n := by omega
        have k0 := CO.out.at_ (b := bo) (o := 0) (V := .int .i64 v) (by simp)
        have k1 := CO.out.at_ (b := bo) (o := 1) (V := .slice A' l c') (by simp)
        have q0 := (F0.out.below BO.out).at_ (b := b + 1) (o := 0) (V := .int .i64 0) (by simp)
        have q1 := (F0.out.below BO.out).at_ (b := b + 1) (o := 1) (V := .slice none 0 0) (by simp)
        have f0 := (F0.out.below BO.out).fr (b := b + 1) (o := 0) (V := .int .i64 0) (by simp)
        have f1 := (F0.out.below BO.out).fr (b := b + 1) (o := 1) (V := .slice none 0 0) (by simp)
        have hres := cells_end q0 q1 (.int .i64 v) (.slice A' l c')
        have HAx : Hid (acc = kd xss) := Lib.hid (by rw [HA.out, List.take_of_length_le (by rw [HL.out]; exact Nat.le_refl _)])
        go_wp2_with fail
        refine bodyPost_ret (v := .tuple #[.agg #[.int .i64 v, .slice A' l c'], .int .i64 0]) (by simp [results, Try.results6, go_sem, hres.1, hres.2]) rfl ?_
        exact RetNC.mk (V := bo + 1) (by rw [HV.out]) (by rw [HV.out, ← HAx.out]; exact HO.out.len.symm) (by rw [HV.out]; exact HAx.out) (by rw [HV.out]) (Hb0.out.trans (BO.out.mono Hb0.out.size)) (by rw [Hbe.out]; omega) (by omega) (HO.out.m (Nat.le_refl _)) (Nat.le_refl _)
end Go.Proofs.Ytoigdiekkkkapaa

/- spec.KamekoDown. -/
namespace Go.Proofs.Ytoigdiekkkkapaa
open Go.RowKit
set_option linter.unusedVariables false

theorem asc_takeK {xss : List (List Int)} (h : Asc xss) (k : Nat) : Asc (xss.take k) := List.Pairwise.sublist (List.take_sublist k xss) h
theorem kds_step {xss : List (List Int)} {k : Nat} {x : List Int} (h : xss[k]? = some x) (ha : Asc xss) (hx : oddX x = true) : oddL (kd (xss.take k) ++ [dnW x]) = kd (xss.take (k + 1)) := by
  have e : kd (xss.take (k + 1)) = kd (xss.take k) ++ [dnW x] := by rw [kd_take_succ h, if_pos hx]
  rw [← e]
  exact oddL_of_asc (kd_asc (asc_takeK ha _))
theorem odd_take_succ {x : List Int} {j : Nat} {z : Int} (h : x[j]? = some z) : oddX (x.take (j + 1)) = (oddX (x.take j) && (z % 2 == 1)) := by
  rw [List.take_add_one, h]; simp [oddX]
theorem kd_total {xss : List (List Int)} (h : ∀ x ∈ xss, x.length ≤ 4) (hl : xss.length ≤ 2000) (k : Nat) : totalL (kd (xss.take k)) ≤ 8000 ∧ (kd (xss.take k)).length ≤ 2000 := by
  have h1 : (kd (xss.take k)).length ≤ 2000 := by
    unfold kd
    rw [List.length_map]
    refine Nat.le_trans (List.length_filter_le _ _) ?_
    rw [List.length_take]; omega
  refine ⟨?_, h1⟩
  have := totalL_le (kd (xss.take k)) 4 fun r hr => by
    unfold kd at hr
    obtain ⟨y, hy, rfl⟩ := List.mem_map.1 hr
    unfold dnW
    rw [List.length_map]
    exact h y (List.mem_of_mem_take (List.mem_filter.1 hy).1)
  omega

set_option maxRecDepth 100000 in
set_option maxHeartbeats 1000000 in
theorem sKamekoDown (v : Int) (A : Option Addr) (n c : Nat) (xss : List (List Int)) (w : World) (h : RdL w w.heap.size A n c xss) (hn : n ≤ 2000000) (ht : totalL xss ≤ 2000000) :
    Calls Try.prog 7 #[.agg #[.int .i64 v, .slice A n c]] w (RetNC (kdmO v xss).1 (kdmO v xss).2.1.length (kdmO v xss).2.1 (kdmO v xss).2.2 w) := by
  obtain ⟨w0, b, hw0, hbe, hb0, hz0, hF⟩ := start22 w (.int .i64 v) (.slice A n c) (.int .i64 0) (.slice none 0 0) 26 26
  have HL := Lib.hid h.len
  have H := Lib.hid (rdL_here h hb0); clear h
  have Hw := Lib.hid hw0; clear hw0
  have Hbe := Lib.hid hbe; clear hbe
  have Hb0 := Lib.hid hb0; clear hb0
  have HZ := Lib.hid hz0; clear hz0
  have F0 := Lib.hid hF; clear hF
  obtain ⟨r1, hr1⟩ : ∃ r, r = polB v xss := ⟨_, rfl⟩
  have HR1 := Lib.hid hr1; clear hr1
  go_enter Try.func7, Try.ntmps7
  go_wp2_with fail
  rw [← Hw.out, ← Hbe.out]
  have k0 := F0.out.at_ (b := b) (o := 0) (V := .int .i64 v) (by simp)
  have k1 := F0.out.at_ (b := b) (o := 1) (V := .slice A n c) (by simp)
  refine (l08Is_any v A n c xss _ H.out hn ht).mono ?_
  rintro e w1 ⟨rfl, hb1⟩
  rw [← HR1.out]
  have X1 := Lib.hid hb1; clear hb1
  clear k0 k1
  have k0 := (F0.out.below X1.out).at_ (b := b) (o := 0) (V := .int .i64 v) (by simp)
  have k1 := (F0.out.below X1.out).at_ (b := b) (o := 1) (V := .slice A n c) (by simp)
  have q0 := (F0.out.below X1.out).at_ (b := b + 1) (o := 0) (V := .int .i64 0) (by simp)
  have q1 := (F0.out.below X1.out).at_ (b := b + 1) (o := 1) (V := .slice none 0 0) (by simp)
  have f0 := (F0.out.below X1.out).fr (b := b + 1) (o := 0) (V := .int .i64 0) (by simp)
  have f1 := (F0.out.below X1.out).fr (b := b + 1) (o := 1) (V := .slice none 0 0) (by simp)
  cases r1
  · have HV := Lib.hid (kdmO_bad HR1.out.symm)
    have hres := cells_end q0 q1 (.int .i64 0) (.slice none 0 0)
    go_wp2_with fail
    refine bodyPost_ret (v := .tuple #[.agg #[.int .i64 0, .slice none 0 0], .int .i64 1]) (by simp [results, Try.results7, go_sem, hres.1, hres.2]) rfl ?_
    exact RetNC.bad (by rw [HV.out]) (by rw [HV.out]) (by rw [HV.out]) (Hb0.out.trans (X1.out.mono Hb0.out.size)) (by rw [Hbe.out]; omega)
  · have HP := Lib.hid (polF_of HR1.out.symm)
    have hv1 := HP.out.lo
    have hv2 := HP.out.hi
    have HV := Lib.hid (kdmO_ok HR1.out.symm)
    clear k0 k1 q0 q1 f0 f1
    have k0 := (F0.out.below X1.out).at_ (b := b) (o := 0) (V := .int .i64 v) (by simp)
    have k1 := (F0.out.below X1.out).at_ (b := b) (o := 1) (V := .slice A n c) (by simp)
    have hbz : b < w1.heap.size := by have := X1.out.size; rw [HZ.out] at this; omega
    have HS := Lib.hid (StL.start (Below.refl w1.heap.size w1) (Nat.le_refl _)).here
    have HX := Lib.hid X1.out.size
    go_wp2_with fail
    clear k0 k1 hbz
    go_loopw [4, 5] (fun o i wr => ∃ (k l c' : Nat) (A' : Option Addr) (acc : List (List Int)), k ≤ n ∧ l ≤ k ∧ i = .int .i64 k ∧ o = .slice A' l c' ∧ Hid (acc = kd (xss.take k)) ∧ Hid (StL w1 w1.heap.size wr wr.heap.size A' l c' acc)) (fun _ i _ => n - (intOf i).toNat)
    case atStart => exact ⟨0, 0, _, _, [], Nat.zero_le _, Nat.le_refl _, rfl, rfl, Lib.hid (by simp [kd]), HS⟩
    case round =>
      clear HS
      obtain ⟨k, l, c', A', acc, hk, hlk, rfl, rfl, HA, HS⟩ := hrel
      have BO := Lib.hid (X1.out.trans (HS.out.bel.mono HX.out))
      have k0 := (F0.out.below BO.out).at_ (b := b) (o := 0) (V := .int .i64 v) (by simp)
      have k1 := (F0.out.below BO.out).at_ (b := b) (o := 1) (V := .slice A n c) (by simp)
      by_cases hlt : k < n
      · obtain ⟨ad, A3, n3, c3, x, rfl, hbk, hx, hcx, hr⟩ := (H.out.below BO.out).at_ hlt
        have HE := Lib.hid (HP.out.each x (List.mem_of_getElem? hx.out))
        have hn3 : n3 ≤ 4 := by have := HE.out.1; rw [hr.len] at this; omega
        have HL3 := Lib.hid hr.len
        have R3 := Lib.hid (hr.mono BO.out.size); clear hr
        have HS0 := Lib.hid (StS.start (Below.refl wr.heap.size wr) (Nat.le_refl _))
        obtain ⟨wz0, hwz0⟩ : ∃ W : World, W = wr := ⟨_, rfl⟩
        have hbr : b < wr.heap.size := by have := BO.out.size; rw [HZ.out] at this; omega
        have hbd : (ad.add k).block < wr.heap.size := by rw [block_of_add]; exact Nat.lt_of_lt_of_le hbk BO.out.size
        have hk0 : (0 : Int) ≤ (k : Int) := by omega
        have hkn : (k : Int) < (n : Int) := by omega
        have K1 := Lib.hid k1
        have KX := Lib.hid hcx
        go_wp2_with fail
        go_loopw [6, 7, 8] (fun y d i wz => ∃ (j c5 : Nat) (A5 : Option Addr) (o : Bool), j ≤ n3 ∧ i = .int .i64 j ∧ y = .slice A5 j c5 ∧ d = .bool o ∧ Hid (o = oddX (x.take j)) ∧ Hid (StS wz0 wz0.heap.size wz A5 j c5 (dnW (x.take j)))) (fun _ _ i _ => n3 - (intOf i).toNat)
        case atStart => exact ⟨0, _, _, true, Nat.zero_le _, rfl, rfl, rfl, Lib.hid rfl, by rw [hwz0]; exact HS0⟩
        case round =>
          clear HS0 k0 k1 hcx
          subst hwz0
          obtain ⟨j, c5, A5, o, hj, rfl, rfl, rfl, HOD, HY⟩ := hrel
          have k1 := bcell HY.out.bel hbr K1.out
          have kx := bcellP HY.out.bel hbd KX.out
          by_cases hjt : j < n3
          · obtain ⟨ad3, z, rfl, hbz, hz, hcz⟩ := (R3.out.below HY.out.bel).at_ hjt
            obtain ⟨hz0, hz40⟩ := HE.out.2.1 z (List.mem_of_getElem? hz.out)
            have HU := Lib.hid (dn_take_succ hz.out)
            have HOD2 := Lib.hid (odd_take_succ hz.out)
            rw [← HOD.out] at HOD2
            cases o
            · go_wp2_with (at_builtin; refine wpList_pushI rfl (.tmp 45) (.tmp 55) rfl rfl rfl HY.out (by omega) ?_)
              intro A6 c6 w6 hs6 _
              rw [← HU.out] at hs6
              have HS6 := Lib.hid hs6; clear hs6
              go_wp2_with fail
              go_roundw
              case rel => exact ⟨j + 1, c6, A6, false, by omega, by go_num, rfl, rfl, Lib.hid (by rw [HOD2.out]; rfl), HS6⟩
              case measure => simp [intOf]; omega
            · go_wp2_with (at_builtin; refine wpList_pushI rfl (.tmp 45) (.tmp 55) rfl rfl rfl HY.out (by omega) ?_)
              intro A6 c6 w6 hs6 _
              rw [← HU.out] at hs6
              have HS6 := Lib.hid hs6; clear hs6
              go_wp2_with fail
              go_roundw
              case rel => exact ⟨j + 1, c6, A6, z % 2 == 1, by omega, by go_num, rfl, rfl, Lib.hid (by rw [HOD2.out]; rfl), HS6⟩
              case measure => simp [intOf]; omega
          · obtain rfl : j = n3 := by omega
            have hxt : x.take j = x := List.take_of_length_le (by rw [HL3.out]; exact Nat.le_refl _)
            have hs7 := HY.out
            rw [hxt] at hs7
            have HS7 := Lib.hid hs7
            have ho := HOD.out
            rw [hxt] at ho
            clear hs7 HOD
            have HT := Lib.hid (HS.out.call HS7.out.bel)
            have hzV : w1.heap.size ≤ wr.heap.size := HT.out.size
            cases o
            · have HU2 : Hid (kd (xss.take (k + 1)) = kd (xss.take k)) := Lib.hid (by rw [kd_take_succ hx.out, if_neg (by rw [← ho]; decide), List.append_nil])
              have HS9 := Lib.hid HT.out.here
              clear ho hxt hzV
              go_wp2_with fail
              go_roundw
              case rel => exact ⟨k + 1, l, c', A', acc, by omega, by omega, by go_num, rfl, Lib.hid (by rw [HU2.out, ← HA.out]), HS9⟩
              case measure => simp [intOf]; omega
            · have HUs := Lib.hid (kds_step hx.out HP.out.asc ho.symm)
              have HUl : Hid ((kd (xss.take (k + 1))).length = l + 1) := Lib.hid (by rw [kd_take_succ hx.out, if_pos ho.symm, List.length_append, ← HA.out, HS.out.own.len]; rfl)
              have HUa := Lib.hid (kd_asc (asc_takeK HP.out.asc k))
              have HUt := Lib.hid (kd_total (fun y hy => by have := (HP.out.each y hy).1; have := HP.out.hi; omega) HP.out.len k)
              have hacc := HA.out
              subst hacc
              have HUx : Hid ((dnW x).length ≤ 4) := Lib.hid (by simp only [dnW, List.length_map]; rw [HL3.out]; exact hn3)
              have Hsum := Lib.hid (l01Sum_any A' _ l c' 1 1 (kd (xss.take k)) [dnW x] _ ((HT.out.rd).alloc _) (rdL_single HS7.out.own.rd (Nat.le_refl _)) (by omega) (by omega) (by have := HUt.out.1; omega) (by have := HUx.out; simp [totalL]; omega) HUa.out (by simp [Asc]))
              rw [HUs.out] at Hsum
              have HXa := Lib.hid ((Below.refl _ _).alloc (Nat.le_refl wr.heap.size) (.cells #[.slice A5 j c5] 31))
              clear ho hxt
              go_wp2_with fail
              refine Hsum.out.mono ?_
              rintro e w9 ⟨A9, c9, rfl, ho9, hb9⟩
              rw [HUl.out] at ho9 ⊢
              have HX9 := Lib.hid (HXa.out.trans (hb9.mono HXa.out.size))
              have HS9 := Lib.hid (show StL w1 w1.heap.size w9 w9.heap.size A9 (l + 1) c9 (kd (xss.take (k + 1))) from
                ⟨ho9.mono (Nat.le_trans hzV HXa.out.size) (Nat.le_refl _), HT.out.bel.trans (HX9.out.mono hzV), Nat.le_trans hzV HX9.out.size, Nat.le_refl _⟩)
              clear ho9 hb9 hzV
              go_wp2_with fail
              go_roundw
              case rel => exact ⟨k + 1, l + 1, c9, A9, _, by omega, by omega, by go_num, rfl, Lib.hid rfl, HS9⟩
              case measure => simp [intOf]; omega
      · obtain rfl : k = n := by omega
        have q0 := (F0.out.below BO.out).at_ (b := b + 1) (o := 0) (V := .int .i64 0) (by simp)
        have q1 := (F0.out.below BO.out).at_ (b := b + 1) (o := 1) (V := .slice none 0 0) (by simp)
        have f0 := (F0.out.below BO.out).fr (b := b + 1) (o := 0) (V := .int .i64 0) (by simp)
        have f1 := (F0.out.below BO.out).fr (b := b + 1) (o := 1) (V := .slice none 0 0) (by simp)
        have hres := cells_end q0 q1 (.int .i64 v) (.slice A' l c')
        have HAx : Hid (acc = kd xss) := Lib.hid (by rw [HA.out, List.take_of_length_le (by rw [HL.out]; exact Nat.le_refl _)])
        have hbV : b + 1 < w1.heap.size := by have := HX.out; rw [HZ.out] at this; omega
        go_wp2_with fail
        refine bodyPost_ret (v := .tuple #[.agg #[.int .i64 v, .slice A' l c'], .int .i64 0]) (by simp [results, Try.results7, go_sem, hres.1, hres.2]) rfl ?_
        exact RetNC.mk (V := w1.heap.size) (by rw [HV.out]) (by rw [HV.out, ← HAx.out]; exact HS.out.own.len.symm) (by rw [HV.out]; exact HAx.out) (by rw [HV.out]) (Hb0.out.trans (BO.out.mono Hb0.out.size)) (by rw [Hbe.out]; omega) hbV (HS.out.own.m (Nat.le_refl _)) (Nat.le_refl _)
end Go.Proofs.Ytoigdiekkkkapaa
