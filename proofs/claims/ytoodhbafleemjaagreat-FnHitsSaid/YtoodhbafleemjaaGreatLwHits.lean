/- The walk of FnHits. -/
import Derived.Test.YtoodhbafleemjaaGreatHtI
import Derived.Test.YtoodhbafleemjaaGreatDrh
import Derived.Test.YtoodhbafleemjaaGreatLwh
import Derived.Test.YtoodhbafleemjaaGreatAddP
namespace Go.Proofs.YtoodhbafleemjaaGreat
open Go.RowKit
set_option linter.unusedVariables false

/-- lists that read -/
structure LstP (w : World) (A : Option Addr) (n c : Nat) (xss : Pol) : Prop where
  rd : RdL w w.heap.size A n c xss
theorem LstP.ext {w w' : World} {A : Option Addr} {n c : Nat} {xss : Pol} (h : LstP w A n c xss) (hb : Ext w w') : LstP w' A n c xss := ⟨(h.rd.below hb).mono hb.size⟩
theorem adO_bounds (v dd : Int) : (adO v dd).length ≤ 1000000 ∧ totalL (adO v dd) ≤ 4000000 := by
  by_cases h : cdO v dd = 0
  · obtain ⟨k, d, hk, hM⟩ := cdK_zero h
    rw [hk.ad (by omega)]
    have h1 : (cohL k d).length ≤ 100 := by have := coh_len k d; omega
    have h2 := totalL_le (cohL k d) 4 fun r hr => by
      have := (mons_pos hk.d40 r (List.mem_filter.1 hr).1).1
      have := hk.k3
      omega
    exact ⟨by omega, by omega⟩
  · rw [adO_no h]; simp [totalL]
theorem spO_bounds (v dd : Int) : (spO v dd).length ≤ 1000000 ∧ totalL (spO v dd) ≤ 4000000 := by
  by_cases h : cdO v dd = 0
  · obtain ⟨k, d, hk, hM⟩ := cdK_zero h
    rw [hk.sp (by omega)]
    have h1 : (spkL k d).length ≤ 100 := Nat.le_trans (List.length_filter_le _ _) hM
    have h2 := totalL_le (spkL k d) 4 fun r hr => by
      have := (mons_pos hk.d40 r (List.mem_filter.1 hr).1).1
      have := hk.k3
      omega
    exact ⟨by omega, by omega⟩
  · rw [spO_no h]; simp [totalL]
theorem lists_each {v dd : Int} {k d : Nat} (hk : CdK v dd k d) : (∀ z ∈ cohL k d, z.length ≤ 8) ∧ (∀ z ∈ spkL k d, z.length ≤ 8) :=
  ⟨fun z hz => by have := (mons_pos hk.d40 z (List.mem_filter.1 hz).1).1; have := hk.k3; omega, fun z hz => by have := (mons_pos hk.d40 z (List.mem_filter.1 hz).1).1; have := hk.k3; omega⟩
theorem nrm_bounds8 {v u c : Int} {f g : Pol} (h : nrmO v f = (u, g, c)) : g.length ≤ 2000 ∧ totalL g ≤ 8000 := by
  cases hp : polB v f with
  | false => rw [nrmO_bad hp] at h; injection h with _ h2; injection h2 with h3 _; subst h3; simp [totalL]
  | true =>
    have hF := polF_of hp
    by_cases h0 : f.length = 0
    · rw [nrmO_void hp h0] at h; injection h with _ h2; injection h2 with h3 _; subst h3; simp [totalL]
    · obtain ⟨k, d, hk, hd, hk3, hd40⟩ := pol_kd hF (by omega)
      by_cases hlim : 100 < (mons k d).length
      · rw [nrmO_lim hp (by omega) hk hd hlim] at h; injection h with _ h2; injection h2 with h3 _; subst h3; simp [totalL]
      · rw [nrmO_ok hp (by omega) hk hd hlim] at h
        injection h with _ h2; injection h2 with h3 _; subst h3
        have hT : Within (mons k d) (redT (hitR k d) f) := (pol_within' hF hk hd).redT fun r hr => (gens_hit.rows r hr).1
        have hP := (pol_of_within hT hk hk3 hd40 (by omega)).1
        exact ⟨hP.len, hP.tot⟩
/-- whether a list is met among the first ones -/
def metB (L : Pol) (j : Nat) (x : List Int) : Bool := (L.take j).any fun r => decide (r = x)
theorem metB_step {L : Pol} {j : Nat} {x y : List Int} (h : L[j]? = some y) : metB L (j + 1) x = (metB L j x || decide (y = x)) := by
  unfold metB
  rw [List.take_add_one, h, List.any_append]
  simp
theorem metB_end {L : Pol} {j : Nat} {x : List Int} (hj : L.length ≤ j) (hx : x ∈ L) : metB L j x = true := by
  unfold metB
  rw [List.take_of_length_le hj, List.any_eq_true]
  exact ⟨x, hx, by simp⟩

set_option maxRecDepth 100000 in
set_option maxHeartbeats 8000000 in
theorem lawHits (A : Option Addr) (n c : Nat) (w : World) (h : RdB w w.heap.size A n c) :
    Calls Tryz.prog 4 #[.slice A n c] w fun e w' => e = .returned (.bool true) ∧ Below w.heap.size w w' := by
  obtain ⟨R, hR⟩ : ∃ R : Ending → World → Prop, R = fun e w' => e = .returned (.bool true) ∧ Below w.heap.size w w' := ⟨_, rfl⟩
  have HR := Lib.hid hR
  rw [← hR]
  clear hR
  go_enter Tryz.func4, Tryz.ntmps4
  go_wp2_with fail
  refine (bigLaw_any A n c w).mono ?_
  rintro e w1 ⟨rfl, hw1⟩
  obtain rfl := hw1.symm
  by_cases hn : 4096 < n
  · rw [decide_eq_true hn]
    go_wp2_with fail
    rw [HR.out]
    exact ⟨rfl, Below.refl _ _⟩
  rw [decide_eq_false hn]
  have hN : n ≤ 4096 := by omega
  clear hn
  go_wp2_with fail
  have HB : Hid (From w w) := Lib.hid ⟨Ext.refl w⟩
  refine (drawCohit_any A n c w ((h.below HB.out.b).mono HB.out.b.size) hN).mono ?_
  rintro e w2 ⟨k, d, rfl, hk0, hk5, hd0, hd1, hb⟩
  replace HB := Lib.hid (HB.out.ext hb)
  clear hb
  obtain ⟨cd, hcd⟩ : ∃ c, c = cdO k d := ⟨_, rfl⟩
  obtain ⟨nn, hnn⟩ : ∃ x, x = chO k d := ⟨_, rfl⟩
  obtain ⟨hh, hhh⟩ : ∃ x, x = hdO k d := ⟨_, rfl⟩
  obtain ⟨ad, had⟩ : ∃ x, x = adO k d := ⟨_, rfl⟩
  obtain ⟨sp, hsp⟩ : ∃ x, x = spO k d := ⟨_, rfl⟩
  obtain ⟨an, han⟩ : ∃ x, x = ad.length := ⟨_, rfl⟩
  obtain ⟨sn, hsn⟩ : ∃ x, x = sp.length := ⟨_, rfl⟩
  have hab : an ≤ 1000000 ∧ totalL ad ≤ 4000000 := by rw [han, had]; exact adO_bounds k d
  have hsb : sn ≤ 1000000 ∧ totalL sp ≤ 4000000 := by rw [hsn, hsp]; exact spO_bounds k d
  have HAN := Lib.hid han
  have HSN := Lib.hid hsn
  have HCD := Lib.hid hcd
  have HNN := Lib.hid hnn
  have HHH := Lib.hid hhh
  have HAD := Lib.hid had
  have HSP := Lib.hid hsp
  have hcc : (cd != cd) = false := by simp
  have hnc : (nn != nn) = false := by simp
  have hhc : (hh != hh) = false := by simp
  clear hcd hnn hhh had hsp han hsn
  go_wp2_with fail
  refine (show Calls Tryz.prog 26 #[.int .i64 k, .int .i64 d] _ (RetIIC nn cd _) from by have hc := iCohitDimension k d w2; rw [← HNN.out, ← HCD.out] at hc; exact hc).mono ?_
  rintro e w3 ⟨rfl, hb⟩
  replace HB := Lib.hid (HB.out.ext hb)
  clear hb
  go_wp2_with fail
  refine (show Calls Tryz.prog 27 #[.int .i64 k, .int .i64 d] _ (RetIIC nn cd _) from by have hc := sCohitDimension k d w3; rw [← HNN.out, ← HCD.out] at hc; exact hc).mono ?_
  rintro e w4 ⟨rfl, hb⟩
  replace HB := Lib.hid (HB.out.ext hb)
  clear hb
  go_wp2_with fail
  refine (show Calls Tryz.prog 28 #[.int .i64 k, .int .i64 d] _ (RetIIC hh cd _) from by have hc := iHitDimension k d w4; rw [← HHH.out, ← HCD.out] at hc; exact hc).mono ?_
  rintro e w5 ⟨rfl, hb⟩
  replace HB := Lib.hid (HB.out.ext hb)
  clear hb
  go_wp2_with fail
  refine (show Calls Tryz.prog 29 #[.int .i64 k, .int .i64 d] _ (RetIIC hh cd _) from by have hc := sHitDimension k d w5; rw [← HHH.out, ← HCD.out] at hc; exact hc).mono ?_
  rintro e w6 ⟨rfl, hb⟩
  replace HB := Lib.hid (HB.out.ext hb)
  clear hb
  go_wp2_with fail
  refine (show Calls Tryz.prog 30 #[.int .i64 k, .int .i64 d] _ (fun e w2 => ∃ A c, e = .returned (.tuple #[.slice A an c, .int .i64 cd]) ∧ RdL w2 w2.heap.size A an c ad ∧ Below w6.heap.size w6 w2) from by have hc := iAdmissibleMonomials k d w6; rw [← HAD.out, ← HCD.out] at hc; unfold RetLK at hc; rw [← HAN.out] at hc; exact hc).mono ?_
  rintro e w7 ⟨A1, c1, rfl, hr, hb⟩
  replace HB := Lib.hid (HB.out.ext hb)
  have LA := Lib.hid (LstP.mk hr)
  clear hr hb
  go_wp2_with fail
  refine (show Calls Tryz.prog 31 #[.int .i64 k, .int .i64 d] _ (fun e w2 => ∃ A c, e = .returned (.tuple #[.slice A an c, .int .i64 cd]) ∧ RdL w2 w2.heap.size A an c ad ∧ Below w7.heap.size w7 w2) from by have hc := sAdmissibleMonomials k d w7; rw [← HAD.out, ← HCD.out] at hc; unfold RetLK at hc; rw [← HAN.out] at hc; exact hc).mono ?_
  rintro e w8 ⟨A2, c2, rfl, hr, hb⟩
  replace HB := Lib.hid (HB.out.ext hb)
  replace LA := Lib.hid (LA.out.ext hb)
  have LB := Lib.hid (LstP.mk hr)
  clear hr hb
  go_wp2_with fail
  refine (same9_any A1 A2 c1 c2 an an ad ad _ _ _ LA.out.rd LB.out.rd (by omega) (by omega) (by omega) (by omega)).mono ?_
  rintro e w9 ⟨rfl, hq⟩
  rw [decide_eq_true (rfl : ad = ad)]
  have hb : Ext w8 w9 := by obtain ⟨q, rfl⟩ := hq; exact below_drewN (Ext.refl _) q
  replace HB := Lib.hid (HB.out.ext hb)
  replace LA := Lib.hid (LA.out.ext hb)
  replace LB := Lib.hid (LB.out.ext hb)
  clear hb hq
  clear LB
  go_wp2_with fail
  refine (show Calls Tryz.prog 33 #[.int .i64 k, .int .i64 d] _ (fun e w2 => ∃ A c, e = .returned (.tuple #[.slice A sn c, .int .i64 cd]) ∧ RdL w2 w2.heap.size A sn c sp ∧ Below w9.heap.size w9 w2) from by have hc := iSpikeMonomials k d w9; rw [← HSP.out, ← HCD.out] at hc; unfold RetLK at hc; rw [← HSN.out] at hc; exact hc).mono ?_
  rintro e w10 ⟨A3, c3, rfl, hr, hb⟩
  replace HB := Lib.hid (HB.out.ext hb)
  replace LA := Lib.hid (LA.out.ext hb)
  have LS := Lib.hid (LstP.mk hr)
  clear hr hb
  go_wp2_with fail
  refine (show Calls Tryz.prog 34 #[.int .i64 k, .int .i64 d] _ (fun e w2 => ∃ A c, e = .returned (.tuple #[.slice A sn c, .int .i64 cd]) ∧ RdL w2 w2.heap.size A sn c sp ∧ Below w10.heap.size w10 w2) from by have hc := sSpikeMonomials k d w10; rw [← HSP.out, ← HCD.out] at hc; unfold RetLK at hc; rw [← HSN.out] at hc; exact hc).mono ?_
  rintro e w11 ⟨A4, c4, rfl, hr, hb⟩
  replace HB := Lib.hid (HB.out.ext hb)
  replace LA := Lib.hid (LA.out.ext hb)
  replace LS := Lib.hid (LS.out.ext hb)
  have LT := Lib.hid (LstP.mk hr)
  clear hr hb
  go_wp2_with fail
  refine (same9_any A3 A4 c3 c4 sn sn sp sp _ _ _ LS.out.rd LT.out.rd (by omega) (by omega) (by omega) (by omega)).mono ?_
  rintro e w12 ⟨rfl, hq⟩
  rw [decide_eq_true (rfl : sp = sp)]
  have hb : Ext w11 w12 := by obtain ⟨q, rfl⟩ := hq; exact below_drewN (Ext.refl _) q
  replace HB := Lib.hid (HB.out.ext hb)
  replace LA := Lib.hid (LA.out.ext hb)
  replace LS := Lib.hid (LS.out.ext hb)
  replace LT := Lib.hid (LT.out.ext hb)
  clear hb hq
  clear LT
  go_upto_if 136 with fail
  go_cut [2, 21, 22, 23, 24, 25, 26, 27, 28, 29] from 135 to 225 (fun _ _ _ _ _ _ _ _ _ _ wc => Hid (Ext w12 wc))
  case first =>
    have HQ : Hid (From w12 w12) := Lib.hid ⟨Ext.refl _⟩
    by_cases hcd0 : cd = 0
    · skip
      have hc0 : (cd == 0) = true := by simpa using hcd0
      obtain ⟨K, D, hkd, hM⟩ := cdK_zero (HCD.out.symm.trans hcd0)
      have hK3 := hkd.k3
      have hD40 := hkd.d40
      have HKD := Lib.hid hkd
      have HM := Lib.hid hM
      obtain ⟨dm1, dm2, dm3⟩ := dims_ok hkd.k3 hM hkd.d40
      have hcl := coh_len K D
      have hnn2 := hkd.ch (by omega)
      have hhh2 := hkd.hd (by omega)
      have had2 := hkd.ad (by omega)
      have hsp2 := hkd.sp (by omega)
      have hle := lists_each hkd
      rw [← HNN.out] at hnn2
      rw [← HHH.out] at hhh2
      rw [← HAD.out] at had2
      rw [← HSP.out] at hsp2
      rw [← had2] at hnn2 dm1 dm2 dm3 hcl hle
      rw [← hsp2] at dm2 hle
      obtain ⟨hN2, hhN⟩ : ∃ x, x = (hitR K D).length := ⟨_, rfl⟩
      rw [← hhN] at hhh2 hcl
      rw [← HAN.out] at hnn2 dm1 dm3 hcl
      obtain ⟨M, hMe⟩ : ∃ x, x = mons K D := ⟨_, rfl⟩
      rw [← hMe] at hcl hM
      obtain ⟨mn, hmn⟩ : ∃ x, x = M.length := ⟨_, rfl⟩
      rw [← hmn] at hcl hM
      obtain ⟨ls, hls⟩ : ∃ x, x = lsN D := ⟨_, rfl⟩
      rw [← hls] at dm1 dm3
      have hls40 : ls < 40 := by rw [hls]; exact (ls_ok D (by omega)).1
      have hke : k = (K : Int) + 1 := hkd.ev
      have hde : d = (D : Int) := hkd.ed
      have HME := Lib.hid hMe
      have HMN := Lib.hid hmn
      have HLS := Lib.hid hls
      have HCl := Lib.hid hcl
      have HDM2 := Lib.hid dm2
      have HDM3 := Lib.hid dm3
      have HLE := Lib.hid hle
      have HNN2 := Lib.hid hnn2
      have HKE := Lib.hid hke
      have HDE := Lib.hid hde
      have hnb : 0 ≤ nn ∧ nn ≤ 100 := by omega
      have hhb : 0 ≤ hh ∧ hh ≤ 100 := by omega
      have hw1 : IntKind.i64.wrap (hh + nn) = (mn : Int) := by rw [IntKind.wrap_i64]; omega
      have hw2 : ((mn : Int) != (mn : Int)) = false := by simp
      have hw3 : ((an : Int) != nn) = false := by rw [hnn2]; simp
      have hdl : decide (k < (ls : Int)) = decide (K + 1 < ls) := by rw [hke]; apply decide_eq_decide.2; omega
      have hw4 : ((nn == 0) != decide (k < (ls : Int))) = false := by
        rw [hdl, ← dm1, hnn2]
        by_cases h0 : an = 0
        · subst h0; simp
        · rw [decide_eq_false h0]; simp; omega
      have hw5 : (!(nn == 0) == decide (k < (ls : Int))) = false := by
        have h0 := hw4
        revert h0
        cases (nn == 0) <;> cases decide (k < (ls : Int)) <;> decide
      clear hkd hM dm1 dm2 dm3 hhh2 had2 hsp2 hle hhN hMe hmn hls hcl hdl hke hde hcd0 hnn2
      go_wp2_with fail
      refine (show Calls Tryz.prog 35 #[.int .i64 k, .int .i64 d] _ (RetLK M 0 _) from by have hc := iMonomialsOf k d K D w12 HKD.out HM.out; rw [← HME.out] at hc; exact hc).mono ?_
      rintro e w13 ⟨A5, c5, rfl, hr, hb⟩
      replace HB := Lib.hid (HB.out.ext hb)
      replace LA := Lib.hid (LA.out.ext hb)
      replace LS := Lib.hid (LS.out.ext hb)
      replace HQ := Lib.hid (HQ.out.ext hb)
      rw [← HMN.out]
      clear hr hb
      go_wp2_with fail
      refine (show Calls Tryz.prog 36 #[.int .i64 d] _ (RetIIC (ls : Int) 0 _) from by have hc := iLeastSpike D d w13 HDE.out hD40; rw [← HLS.out] at hc; exact hc).mono ?_
      rintro e w14 ⟨rfl, hb⟩
      replace HB := Lib.hid (HB.out.ext hb)
      replace LA := Lib.hid (LA.out.ext hb)
      replace LS := Lib.hid (LS.out.ext hb)
      replace HQ := Lib.hid (HQ.out.ext hb)
      clear hb
      go_wp2_with fail
      go_loopw [25] (fun i wr => ∃ t q : Nat, t ≤ sn ∧ i = .int .i64 t ∧ wr = w14.drewN q) (fun i _ => sn - (intOf i).toNat)
      case atStart => exact ⟨0, 0, Nat.zero_le _, rfl, rfl⟩
      case round =>
        obtain ⟨t, q0, ht, rfl, rfl⟩ := hrel
        by_cases hlt : t < sn
        · obtain ⟨ad3, A6, n6, c6, x, rfl, _, hx, hc6, hr6⟩ := LS.out.rd.at_ hlt
          have hxl := HLE.out.2 x (List.mem_of_getElem? hx.out)
          have hxm := Lib.hid (HDM2.out x (List.mem_of_getElem? hx.out))
          have hn6 : n6 ≤ 8 := by rw [← hr6.len]; exact hxl
          clear hx hxl
          go_wp2_with fail
          go_loopw [26, 27] (fun g j wz => ∃ (u q : Nat) (b : Bool), u ≤ an ∧ j = .int .i64 u ∧ g = .bool b ∧ Hid (b = metB ad u x) ∧ wz = w14.drewN q) (fun _ j _ => an - (intOf j).toNat)
          case atStart => exact ⟨0, q0, false, Nat.zero_le _, rfl, rfl, Lib.hid rfl, rfl⟩
          case round =>
            obtain ⟨u, q, b, hu, rfl, rfl, HG, rfl⟩ := hrel
            by_cases hlt2 : u < an
            · obtain ⟨ad7, A7, n7, c7, y, rfl, _, hy, hc7, hr7⟩ := LA.out.rd.at_ hlt2
              have hn7 : n7 ≤ 8 := by rw [← hr7.len]; exact HLE.out.1 y (List.mem_of_getElem? hy.out)
              have HSm := fun Q : Nat => Lib.hid (likeI_any A7 A6 c7 c6 n7 n6 y x (w14.drewN Q) _ _ (hr7.drewN Q) (hr6.drewN Q) (by omega) (by omega))
              have HST := Lib.hid (metB_step (x := x) hy.out)
              rw [← HG.out] at HST
              obtain ⟨e5, he5⟩ : ∃ e, e = decide (y = x) := ⟨_, rfl⟩
              rw [← he5] at HSm HST
              clear hy hr7 he5
              cases b
              · go_wp2_with fail
                go_quiet ((go_at_call 37; first | exact Calls.quiet_of ((HSm _).out) | exact quiet_add ((HSm _).out)))
                go_wp2_with fail
                go_roundw
                case rel => exact ⟨u + 1, _, e5, by omega, by go_num, rfl, Lib.hid (by rw [HST.out]; rfl), rfl⟩
                case measure => simp [intOf]; omega
              · go_wp2_with fail
                go_quiet ((go_at_call 37; first | exact Calls.quiet_of ((HSm _).out) | exact quiet_add ((HSm _).out)))
                go_wp2_with fail
                go_roundw
                case rel => exact ⟨u + 1, _, true, by omega, by go_num, rfl, Lib.hid (by rw [HST.out]; rfl), rfl⟩
                case measure => simp [intOf]; omega
            · obtain rfl : b = true := by rw [HG.out]; exact metB_end (by rw [← HAN.out]; omega) hxm.out
              go_wp2_with fail
              go_roundw
              case rel => exact ⟨t + 1, q, by omega, by go_num, rfl⟩
              case measure => simp [intOf]; omega
        · skip
          by_cases hlk : (ls : Int) = k
          · skip
            have hl1 : ((ls : Int) == k) = true := by simpa using hlk
            by_cases hdk : k < d
            · skip
              have hl2 : decide (k < d) = true := decide_eq_true hdk
              have hlK : ls = K + 1 := by have := HKE.out; omega
              have hKD : K + 1 < D := by have := HKE.out; have := HDE.out; omega
              have hhf := cdK_half HKD.out ((D - (K + 1)) / 2) (by omega) HM.out
              have hquo : Int.tdiv (IntKind.i64.wrap (d - k)) 2 = (((D - (K + 1)) / 2 : Nat) : Int) := by
                have h1 : IntKind.i64.wrap (d - k) = ((D - (K + 1) : Nat) : Int) := by rw [IntKind.wrap_i64]; have := HKE.out; have := HDE.out; omega
                rw [h1, Int.tdiv_eq_ediv_of_nonneg (by omega)]
                omega
              have HHf := Lib.hid (show chO k (((D - (K + 1)) / 2 : Nat) : Int) = nn ∧ cdO k (((D - (K + 1)) / 2 : Nat) : Int) = 0 from ⟨by rw [hhf.1.ch (by have := hhf.2; omega), HDM3.out hlK hKD, HNN2.out], hhf.1.ok (by have := hhf.2; omega)⟩)
              obtain ⟨e2, he2⟩ : ∃ e : Int, e = (((D - (K + 1)) / 2 : Nat) : Int) := ⟨_, rfl⟩
              have hwe : wrap64 e2 = e2 := by unfold wrap64; omega
              rw [← he2] at HHf hquo
              have hwd : IntKind.i64.wrap (d - k) = d - k := by rw [IntKind.wrap_i64]; have := HKE.out; have := HDE.out; omega
              rw [hwd] at hquo
              clear hhf hlK hKD he2 hlk hdk
              go_wp2_with fail
              refine (show Calls Tryz.prog 26 #[.int .i64 k, .int .i64 e2] _ (RetIIC nn 0 _) from by have hc := iCohitDimension k e2 (w14.drewN q0); rw [HHf.out.1, HHf.out.2] at hc; exact hc).mono ?_
              rintro e wq ⟨rfl, hbq⟩
              have HbQ := Lib.hid ((below_drewN (Ext.refl w14) q0).trans hbq)
              clear hbq
              go_wp2_with fail
              go_meet
              exact Lib.hid (HQ.out.b.trans HbQ.out)
            · skip
              have hl2 : decide (k < d) = false := decide_eq_false hdk
              go_wp2_with fail
              go_meet
              exact Lib.hid (HQ.out.b.trans (below_drewN (Ext.refl w14) q0))
          · skip
            have hl1 : ((ls : Int) == k) = false := by simpa using hlk
            go_wp2_with fail
            go_meet
            exact Lib.hid (HQ.out.b.trans (below_drewN (Ext.refl w14) q0))
    · skip
      have hc0 : (cd == 0) = false := by simpa using hcd0
      go_wp2_with fail
      go_meet
      exact Lib.hid (Ext.refl _)
  case rest =>
    have hb := hcut.out
    replace HB := Lib.hid (HB.out.ext hb)
    replace LA := Lib.hid (LA.out.ext hb)
    replace LS := Lib.hid (LS.out.ext hb)
    clear hb hcut
    clear LA LS
    clear HCD HNN HHH HAD HSP hab hsb hcc hnc hhc
    go_wp2_with fail
    refine (drawNormal_any A n c wc ((h.below HB.out.b).mono HB.out.b.size) hN).mono ?_
    rintro e w13 ⟨v, A6, n6, c6, xss, rfl, ho, hn6, htxss, hb⟩
    replace HB := Lib.hid (HB.out.ext hb)
    have hrxss := ho.rd
    clear ho hb
    have F := Lib.hid (BoxP.new (v := v) (hrxss) 26 rfl)
    obtain ⟨w14, hw14⟩ : ∃ W, W = w13.alloc (.cells #[.int .i64 v, .slice A6 n6 c6] 26) := ⟨_, rfl⟩
    obtain ⟨q1, hq1⟩ : ∃ q, q = w13.heap.size := ⟨_, rfl⟩
    rw [← hw14, ← hq1] at F
    have ew14 : Ext w13 w14 := by rw [hw14]; exact (Ext.refl _).alloc _
    replace HB := Lib.hid (HB.out.ext ew14)
    have Hw14 := Lib.hid hw14
    have Hq1 := Lib.hid hq1
    clear hw14 hq1 ew14
    go_wp2_with fail
    rw [← Hw14.out, ← Hq1.out]
    clear hrxss
    obtain ⟨o, ho⟩ : ∃ o, o = nrmO v xss := ⟨_, rfl⟩
    obtain ⟨u1, ys, k1⟩ := o
    have HO1 := Lib.hid ho.symm
    clear ho
    have hy1 := nrm_bounds8 HO1.out
    refine (show Calls Tryz.prog 39 #[.agg #[.int .i64 v, .slice A6 n6 c6]] _ (RetNC u1 ys.length ys k1 _) from by have hc := iNormalForm v A6 n6 c6 xss _ F.out.rd (by omega) (by omega); rw [HO1.out] at hc; exact hc).mono ?_
    rintro e w15 ⟨A7, c7, rfl, ho, hb⟩
    replace HB := Lib.hid (HB.out.ext hb)
    replace F := Lib.hid (F.out.ext hb)
    have hrys := ho.own.rd
    clear ho hb
    have D := Lib.hid (BoxP.new (v := u1) (hrys) 26 rfl)
    obtain ⟨w16, hw16⟩ : ∃ W, W = w15.alloc (.cells #[.int .i64 u1, .slice A7 ys.length c7] 26) := ⟨_, rfl⟩
    obtain ⟨q2, hq2⟩ : ∃ q, q = w15.heap.size := ⟨_, rfl⟩
    rw [← hw16, ← hq2] at D
    have ew16 : Ext w15 w16 := by rw [hw16]; exact (Ext.refl _).alloc _
    have xF0 := F.out.c0
    have xF1 := F.out.c1
    have xFl := F.out.lt
    replace HB := Lib.hid (HB.out.ext ew16)
    replace F := Lib.hid (F.out.ext ew16)
    have Hw16 := Lib.hid hw16
    have Hq2 := Lib.hid hq2
    clear hw16 hq2 ew16
    go_wp2_with fail
    clear xF0 xF1 xFl
    rw [← Hw16.out, ← Hq2.out]
    clear hrys
    refine (show Calls Tryz.prog 40 #[.agg #[.int .i64 v, .slice A6 n6 c6]] _ (RetNC u1 ys.length ys k1 _) from by have hc := sNormalForm v A6 n6 c6 xss _ F.out.rd (by omega) (by omega); rw [HO1.out] at hc; exact hc).mono ?_
    rintro e w17 ⟨A8, c8, rfl, ho, hb⟩
    replace HB := Lib.hid (HB.out.ext hb)
    replace F := Lib.hid (F.out.ext hb)
    replace D := Lib.hid (D.out.ext hb)
    have hrys := ho.own.rd
    clear ho hb
    have E := Lib.hid (BoxP.new (v := u1) (hrys) 26 rfl)
    obtain ⟨w18, hw18⟩ : ∃ W, W = w17.alloc (.cells #[.int .i64 u1, .slice A8 ys.length c8] 26) := ⟨_, rfl⟩
    obtain ⟨q3, hq3⟩ : ∃ q, q = w17.heap.size := ⟨_, rfl⟩
    rw [← hw18, ← hq3] at E
    have ew18 : Ext w17 w18 := by rw [hw18]; exact (Ext.refl _).alloc _
    have xF0 := F.out.c0
    have xF1 := F.out.c1
    have xFl := F.out.lt
    have xD0 := D.out.c0
    have xD1 := D.out.c1
    have xDl := D.out.lt
    replace HB := Lib.hid (HB.out.ext ew18)
    replace F := Lib.hid (F.out.ext ew18)
    replace D := Lib.hid (D.out.ext ew18)
    have Hw18 := Lib.hid hw18
    have Hq3 := Lib.hid hq3
    clear hw18 hq3 ew18
    go_wp2_with fail
    clear xF0 xF1 xFl xD0 xD1 xDl
    rw [← Hw18.out, ← Hq3.out]
    clear hrys
    have hnk1 : (k1 != k1) = false := by simp
    refine (poly9_any u1 u1 A7 A8 c7 c8 ys.length ys.length ys ys _ _ _ D.out.rd E.out.rd (Nat.le_refl _) (Nat.le_refl _) (by omega) (by omega) (by omega) (by omega)).mono ?_
    rintro e w19 ⟨rfl, hb⟩
    replace HB := Lib.hid (HB.out.ext hb)
    replace F := Lib.hid (F.out.ext hb)
    replace D := Lib.hid (D.out.ext hb)
    replace E := Lib.hid (E.out.ext hb)
    clear hb
    rw [show decide (u1 = u1 ∧ ys = ys) = true from by simp]
    clear E
    have xF0 := F.out.c0
    have xF1 := F.out.c1
    have xFl := F.out.lt
    have xD0 := D.out.c0
    have xD1 := D.out.c1
    have xDl := D.out.lt
    go_wp2_with fail
    clear xF0 xF1 xFl xD0 xD1 xDl
    clear hnk1
    refine (drawIsHit_any A n c w19 ((h.below HB.out.b).mono HB.out.b.size) hN).mono ?_
    rintro e w20 ⟨v2, A9, n9, c9, zss, rfl, ho, hn9, htzss, hb⟩
    replace HB := Lib.hid (HB.out.ext hb)
    replace F := Lib.hid (F.out.ext hb)
    replace D := Lib.hid (D.out.ext hb)
    have hrzss := ho.rd
    clear ho hb
    have P := Lib.hid (BoxP.new (v := v2) (hrzss) 26 rfl)
    obtain ⟨w21, hw21⟩ : ∃ W, W = w20.alloc (.cells #[.int .i64 v2, .slice A9 n9 c9] 26) := ⟨_, rfl⟩
    obtain ⟨q4, hq4⟩ : ∃ q, q = w20.heap.size := ⟨_, rfl⟩
    rw [← hw21, ← hq4] at P
    have ew21 : Ext w20 w21 := by rw [hw21]; exact (Ext.refl _).alloc _
    have xF0 := F.out.c0
    have xF1 := F.out.c1
    have xFl := F.out.lt
    have xD0 := D.out.c0
    have xD1 := D.out.c1
    have xDl := D.out.lt
    replace HB := Lib.hid (HB.out.ext ew21)
    replace F := Lib.hid (F.out.ext ew21)
    replace D := Lib.hid (D.out.ext ew21)
    have Hw21 := Lib.hid hw21
    have Hq4 := Lib.hid hq4
    clear hw21 hq4 ew21
    go_wp2_with fail
    clear xF0 xF1 xFl xD0 xD1 xDl
    rw [← Hw21.out, ← Hq4.out]
    clear hrzss
    obtain ⟨b1, hb1⟩ : ∃ b, b = hitB v2 zss := ⟨_, rfl⟩
    obtain ⟨e1, he1⟩ : ∃ e, e = (nrmO v2 zss).2.2 := ⟨_, rfl⟩
    have HB1 := Lib.hid hb1
    have HE1 := Lib.hid he1
    clear hb1 he1
    refine (show Calls Tryz.prog 43 #[.agg #[.int .i64 v2, .slice A9 n9 c9]] _ (RetBIC b1 e1 _) from by have hc := iIsHit v2 A9 n9 c9 zss _ P.out.rd (by omega) (by omega); rw [← HB1.out, ← HE1.out] at hc; exact hc).mono ?_
    rintro e w22 ⟨rfl, hb⟩
    replace HB := Lib.hid (HB.out.ext hb)
    replace F := Lib.hid (F.out.ext hb)
    replace D := Lib.hid (D.out.ext hb)
    replace P := Lib.hid (P.out.ext hb)
    clear hb
    have xF0 := F.out.c0
    have xF1 := F.out.c1
    have xFl := F.out.lt
    have xD0 := D.out.c0
    have xD1 := D.out.c1
    have xDl := D.out.lt
    have xP0 := P.out.c0
    have xP1 := P.out.c1
    have xPl := P.out.lt
    go_wp2_with fail
    clear xF0 xF1 xFl xD0 xD1 xDl xP0 xP1 xPl
    refine (show Calls Tryz.prog 44 #[.agg #[.int .i64 v2, .slice A9 n9 c9]] _ (RetBIC b1 e1 _) from by have hc := sIsHit v2 A9 n9 c9 zss _ P.out.rd (by omega) (by omega); rw [← HB1.out, ← HE1.out] at hc; exact hc).mono ?_
    rintro e w23 ⟨rfl, hb⟩
    replace HB := Lib.hid (HB.out.ext hb)
    replace F := Lib.hid (F.out.ext hb)
    replace D := Lib.hid (D.out.ext hb)
    replace P := Lib.hid (P.out.ext hb)
    clear hb
    have hne1 : (e1 != e1) = false := by simp
    have hnb1 : (b1 != b1) = false := by simp
    clear P
    by_cases hk1 : k1 = 0
    · skip
      subst hk1
      obtain ⟨l1, l2, l3, l4, l5, l6, l7⟩ := nrm_law HO1.out
      subst l1
      have HL3 := Lib.hid l3
      have HL4 := Lib.hid l4
      have HL5 := Lib.hid l5
      obtain ⟨ss, hss⟩ : ∃ x, x = oddL (xss ++ ys) := ⟨_, rfl⟩
      rw [← hss] at l2 l6 l7 HL3 HL4
      have HL2 := Lib.hid l2
      clear l2 l3 l4 l5 hss
      have xF0 := F.out.c0
      have xF1 := F.out.c1
      have xFl := F.out.lt
      have xD0 := D.out.c0
      have xD1 := D.out.c1
      have xDl := D.out.lt
      go_wp2_with fail
      clear xF0 xF1 xFl xD0 xD1 xDl
      refine (show Calls Tryz.prog 15 #[.agg #[.int .i64 u1, .slice A6 n6 c6], .agg #[.int .i64 u1, .slice A7 ys.length c7]] _ (RetNC u1 ss.length ss 0 _) from by have hc := iAddPolys u1 u1 A6 A7 n6 c6 ys.length c7 xss ys _ F.out.rd D.out.rd (by omega) (by omega) (by omega) (by omega); rw [HL2.out] at hc; exact hc).mono ?_
      rintro e w24 ⟨A10, c10, rfl, ho, hb⟩
      replace HB := Lib.hid (HB.out.ext hb)
      replace F := Lib.hid (F.out.ext hb)
      replace D := Lib.hid (D.out.ext hb)
      have hrss := ho.own.rd
      clear ho hb
      have S := Lib.hid (BoxP.new (v := u1) (hrss) 26 rfl)
      obtain ⟨w25, hw25⟩ : ∃ W, W = w24.alloc (.cells #[.int .i64 u1, .slice A10 ss.length c10] 26) := ⟨_, rfl⟩
      obtain ⟨q5, hq5⟩ : ∃ q, q = w24.heap.size := ⟨_, rfl⟩
      rw [← hw25, ← hq5] at S
      have ew25 : Ext w24 w25 := by rw [hw25]; exact (Ext.refl _).alloc _
      have xF0 := F.out.c0
      have xF1 := F.out.c1
      have xFl := F.out.lt
      have xD0 := D.out.c0
      have xD1 := D.out.c1
      have xDl := D.out.lt
      replace HB := Lib.hid (HB.out.ext ew25)
      replace F := Lib.hid (F.out.ext ew25)
      replace D := Lib.hid (D.out.ext ew25)
      have Hw25 := Lib.hid hw25
      have Hq5 := Lib.hid hq5
      clear hw25 hq5 ew25
      go_wp2_with fail
      clear xF0 xF1 xFl xD0 xD1 xDl
      rw [← Hw25.out, ← Hq5.out]
      clear hrss
      refine (show Calls Tryz.prog 43 #[.agg #[.int .i64 u1, .slice A10 ss.length c10]] _ (RetBIC true 0 _) from by have hc := iIsHit u1 A10 ss.length c10 ss _ S.out.rd (by omega) (by omega); rw [HL3.out, HL4.out] at hc; exact hc).mono ?_
      rintro e w26 ⟨rfl, hb⟩
      replace HB := Lib.hid (HB.out.ext hb)
      replace F := Lib.hid (F.out.ext hb)
      replace D := Lib.hid (D.out.ext hb)
      replace S := Lib.hid (S.out.ext hb)
      clear hb
      clear S
      have xF0 := F.out.c0
      have xF1 := F.out.c1
      have xFl := F.out.lt
      have xD0 := D.out.c0
      have xD1 := D.out.c1
      have xDl := D.out.lt
      go_wp2_with fail
      clear xF0 xF1 xFl xD0 xD1 xDl
      refine (show Calls Tryz.prog 39 #[.agg #[.int .i64 u1, .slice A7 ys.length c7]] _ (RetNC u1 ys.length ys 0 _) from by have hc := iNormalForm u1 A7 ys.length c7 ys _ D.out.rd (by omega) (by omega); rw [HL5.out] at hc; exact hc).mono ?_
      rintro e w27 ⟨A11, c11, rfl, ho, hb⟩
      replace HB := Lib.hid (HB.out.ext hb)
      replace F := Lib.hid (F.out.ext hb)
      replace D := Lib.hid (D.out.ext hb)
      have hrys := ho.own.rd
      clear ho hb
      have T := Lib.hid (BoxP.new (v := u1) (hrys) 26 rfl)
      obtain ⟨w28, hw28⟩ : ∃ W, W = w27.alloc (.cells #[.int .i64 u1, .slice A11 ys.length c11] 26) := ⟨_, rfl⟩
      obtain ⟨q6, hq6⟩ : ∃ q, q = w27.heap.size := ⟨_, rfl⟩
      rw [← hw28, ← hq6] at T
      have ew28 : Ext w27 w28 := by rw [hw28]; exact (Ext.refl _).alloc _
      have xF0 := F.out.c0
      have xF1 := F.out.c1
      have xFl := F.out.lt
      have xD0 := D.out.c0
      have xD1 := D.out.c1
      have xDl := D.out.lt
      replace HB := Lib.hid (HB.out.ext ew28)
      replace F := Lib.hid (F.out.ext ew28)
      replace D := Lib.hid (D.out.ext ew28)
      have Hw28 := Lib.hid hw28
      have Hq6 := Lib.hid hq6
      clear hw28 hq6 ew28
      go_wp2_with fail
      clear xF0 xF1 xFl xD0 xD1 xDl
      rw [← Hw28.out, ← Hq6.out]
      clear hrys
      refine (same9_any A11 A7 c11 c7 ys.length ys.length ys ys _ _ _ T.out.rd D.out.rd (by omega) (by omega) (by omega) (by omega)).mono ?_
      rintro e w29 ⟨rfl, hq⟩
      rw [decide_eq_true (rfl : ys = ys)]
      have hb : Ext w28 w29 := by obtain ⟨q, rfl⟩ := hq; exact below_drewN (Ext.refl _) q
      replace HB := Lib.hid (HB.out.ext hb)
      replace F := Lib.hid (F.out.ext hb)
      replace D := Lib.hid (D.out.ext hb)
      replace T := Lib.hid (T.out.ext hb)
      clear hb hq
      have xF0 := F.out.c0
      have xF1 := F.out.c1
      have xFl := F.out.lt
      have xD0 := D.out.c0
      have xD1 := D.out.c1
      have xDl := D.out.lt
      have xT0 := T.out.c0
      have xT1 := T.out.c1
      have xTl := T.out.lt
      go_wp2_with fail
      clear xF0 xF1 xFl xD0 xD1 xDl xT0 xT1 xTl
      rw [HR.out]
      exact ⟨rfl, HB.out.b⟩
    · skip
      have hyn := nrm_code HO1.out hk1
      subst hyn
      have hk2 : (k1 != 0) = true := by simpa using hk1
      have xF0 := F.out.c0
      have xF1 := F.out.c1
      have xFl := F.out.lt
      have xD0 := D.out.c0
      have xD1 := D.out.c1
      have xDl := D.out.lt
      go_wp2_with fail
      clear xF0 xF1 xFl xD0 xD1 xDl
      rw [HR.out]
      exact ⟨rfl, HB.out.b⟩
end Go.Proofs.YtoodhbafleemjaaGreat
