/- spec.l09Poly, l09Normal, NormalForm. -/
import Derived.Test.YtoodhbafleemjaaGreatHitS
import Derived.Test.YtoodhbafleemjaaGreatHitC
import Derived.Test.YtoodhbafleemjaaGreatPlyA
namespace Go.Proofs.YtoodhbafleemjaaGreat
open Go.RowKit
set_option linter.unusedVariables false

theorem pol_within' {v : Int} {f : Pol} {k d : Nat} (hp : PolF v f) (hv : v = ((k + 1 : Nat) : Int)) (hd : degL f = d) : Within (mons k d) f := ⟨hp.asc, fun z hz => by
  have := hp.degs hv z hz
  rw [hd] at this
  exact (mons_mem k d z).2 this⟩
theorem gens_hit {k d : Nat} : Gens (mons k d) (gensTo k d (hitJ d)) := gens_J (fun j hj => by
  unfold hitJ at hj
  by_cases hd : d = 0
  · rw [if_pos hd] at hj; omega
  · rw [if_neg hd] at hj
    exact Nat.le_trans (Nat.pow_le_pow_right (by decide) (by omega : j ≤ Nat.log2 d)) (Nat.log2_self_le hd))
theorem degL_nonneg {v : Int} {f : Pol} (hp : PolF v f) (h : 0 < f.length) : 0 ≤ degL f := by
  rw [hp.deg.1]
  have hm : f.headD [] ∈ f := by
    match f, h with
    | x :: _, _ => simp
  exact sum_nonneg' fun a ha => ((hp.each _ hm).2.1 a ha).1
/-- how many variables and what degree -/
theorem pol_kd {v : Int} {f : Pol} (hp : PolF v f) (h : 0 < f.length) : ∃ k d : Nat, v = ((k + 1 : Nat) : Int) ∧ degL f = d ∧ k ≤ 3 ∧ d ≤ 40 := by
  have h1 := hp.lo
  have h2 := hp.hi
  have h3 := hp.deg.2
  have h4 := degL_nonneg hp h
  exact ⟨(v - 1).toNat, (degL f).toNat, by omega, by omega, by omega, by omega⟩
set_option maxRecDepth 100000 in
theorem poly09_any (v : Int) (A1 : Option Addr) (n1 c1 : Nat) (xss : List (List Int)) (w : World) (h1 : RdL w w.heap.size A1 n1 c1 xss) (hn1 : n1 ≤ 2000000) (ht1 : totalL xss ≤ 2000000) :
    Calls Tryz.prog 98 #[.agg #[.int .i64 v, .slice A1 n1 c1]] w (RetIb (nrmO v xss).2.2 w) := by
  obtain ⟨w0, b, hw0, hbe, hb0, hz0, hF⟩ := start1 w (.int .i64 v) (.slice A1 n1 c1) 26
  have HL1 := Lib.hid h1.len
  have H1 := Lib.hid (rdL_here h1 hb0); clear h1
  have Hw := Lib.hid hw0
  have Hbe := Lib.hid hbe
  have Hb0 := Lib.hid hb0
  have F0 := Lib.hid hF
  have k00 := hF.at_ (b := b) (o := 0) (V := .int .i64 v) (by simp)
  have k01 := hF.at_ (b := b) (o := 1) (V := .slice A1 n1 c1) (by simp)
  rw [hw0, hbe] at k00 k01
  obtain ⟨r1, hr1⟩ : ∃ r, r = polB v xss := ⟨_, rfl⟩
  have HR1 := Lib.hid hr1; clear hr1
  obtain ⟨o, ho⟩ : ∃ o, o = nrmO v xss := ⟨_, rfl⟩
  have HO := Lib.hid ho
  rw [← ho]
  clear ho hw0 hbe hb0 hz0 hF
  go_enter Tryz.func98, Tryz.ntmps98
  go_wp2_with fail
  rw [← Hw.out, ← Hbe.out]
  clear k00 k01
  refine (l08Is_any v A1 n1 c1 xss _ H1.out hn1 ht1).mono ?_
  rintro e w1 ⟨rfl, hb1⟩
  rw [← HR1.out]
  have X1 := Lib.hid hb1; clear hb1
  have X1w := Lib.hid (Hb0.out.trans (X1.out.mono Hb0.out.size))
  have k0 := (F0.out.below X1.out).at_ (b := b) (o := 0) (V := .int .i64 v) (by simp)
  have k1 := (F0.out.below X1.out).at_ (b := b) (o := 1) (V := .slice A1 n1 c1) (by simp)
  cases r1
  · have HV := Lib.hid (HO.out.trans (nrmO_bad HR1.out.symm))
    go_wp2_with fail
    go_ret
    exact RetIb.mk (by rw [HV.out]) X1w.out
  · have HP1 := Lib.hid (polF_of HR1.out.symm)
    by_cases hz : n1 = 0
    · have HV := Lib.hid (HO.out.trans (nrmO_void HR1.out.symm (by rw [HL1.out]; exact hz)))
      subst hz
      go_wp2_with fail
      go_quiet (fail)
      go_wp2_with fail
      go_ret
      exact RetIb.mk (by rw [HV.out]) (below_drewN X1w.out _)
    · obtain ⟨k, d, hk, hd, hk3, hd40⟩ := pol_kd HP1.out (by rw [HL1.out]; omega)
      have hpos : 0 < n1 := by omega
      have hpos2 : decide ((0 : Int) < n1) = true := decide_eq_true (by omega)
      have HD := fun W : Nat => Lib.hid (l08Degree_any A1 n1 c1 _ xss (w1.drewN W) ((rdL_here H1.out X1.out).drewN W) hn1 ht1)
      have HC := fun W : Nat => Lib.hid (count09_any k d v (degL xss) (w1.drewN W) (by omega) hd hk3 hd40)
      obtain ⟨m, hm⟩ : ∃ m, m = (mons k d).length := ⟨_, rfl⟩
      rw [← hm] at HC
      obtain ⟨dg, hdg⟩ : ∃ g, g = degL xss := ⟨_, rfl⟩
      have HDG := Lib.hid hdg
      rw [← hdg] at HD HC
      have HK := Lib.hid hk
      have HDd := Lib.hid hd
      have HMm := Lib.hid hm
      clear hz hk hd hm hdg
      by_cases hlim : 100 < m
      · have HV := Lib.hid (HO.out.trans (nrmO_lim HR1.out.symm (by rw [HL1.out]; exact hpos) HK.out HDd.out (by rw [← HMm.out]; exact hlim)))
        have hl : decide (100 < (m : Int)) = true := decide_eq_true (by omega)
        go_wp2_with fail
        go_quiet (first | (go_at_call 52; exact Calls.quiet_of_same ((HD _).out)) | (go_at_call 82; exact Calls.quiet_of_same ((HC _).out)))
        go_wp2_with fail
        go_ret
        exact RetIb.mk (by rw [HV.out]) (below_drewN X1w.out _)
      · have HV := Lib.hid (HO.out.trans (nrmO_ok HR1.out.symm (by rw [HL1.out]; exact hpos) HK.out HDd.out (by rw [← HMm.out]; exact hlim)))
        have hl : decide (100 < (m : Int)) = false := decide_eq_false (by omega)
        go_wp2_with fail
        go_quiet (first | (go_at_call 52; exact Calls.quiet_of_same ((HD _).out)) | (go_at_call 82; exact Calls.quiet_of_same ((HC _).out)))
        go_wp2_with fail
        go_ret
        exact RetIb.mk (by rw [HV.out]) (below_drewN X1w.out _)
/-- what lies within the limit -/
theorem nrm_lim0 {v : Int} {f : Pol} {k d : Nat} (h : polB v f = true) (h0 : 0 < f.length) (hv : v = ((k + 1 : Nat) : Int)) (hd : degL f = d) (hc : (nrmO v f).2.2 = 0) : (mons k d).length ≤ 100 := by
  rcases Nat.lt_or_ge 100 (mons k d).length with h1 | h1
  · rw [nrmO_lim h h0 hv hd h1] at hc; cases hc
  · exact h1
set_option maxRecDepth 100000 in
theorem normal09_any (v : Int) (A1 : Option Addr) (n1 c1 : Nat) (xss : List (List Int)) (w : World) (h1 : RdL w w.heap.size A1 n1 c1 xss) (hn1 : n1 ≤ 2000000) (ht1 : totalL xss ≤ 2000000) (hp : polB v xss = true) (hc : (nrmO v xss).2.2 = 0) :
    Calls Tryz.prog 100 #[.agg #[.int .i64 v, .slice A1 n1 c1]] w (RetRL (nrmO v xss).2.1 w) := by
  obtain ⟨w0, b, hw0, hbe, hb0, hz0, hF⟩ := start1 w (.int .i64 v) (.slice A1 n1 c1) 26
  have HL1 := Lib.hid h1.len
  have H1 := Lib.hid (rdL_here h1 hb0); clear h1
  have Hw := Lib.hid hw0
  have Hbe := Lib.hid hbe
  have Hb0 := Lib.hid hb0
  have F0 := Lib.hid hF
  have HP := Lib.hid hp
  have HC := Lib.hid hc
  have k00 := hF.at_ (b := b) (o := 0) (V := .int .i64 v) (by simp)
  have k01 := hF.at_ (b := b) (o := 1) (V := .slice A1 n1 c1) (by simp)
  rw [hw0, hbe] at k00 k01
  obtain ⟨R, hR⟩ : ∃ R, R = RetRL (nrmO v xss).2.1 w := ⟨_, rfl⟩
  have HR := Lib.hid hR
  rw [← hR]
  have HP1 := Lib.hid (polF_of hp)
  clear hR hw0 hbe hb0 hz0 hF hp hc
  by_cases hz : n1 = 0
  · have HV := Lib.hid (nrmO_void HP.out (by rw [HL1.out]; exact hz))
    subst hz
    go_enter Tryz.func100, Tryz.ntmps100
    go_wp2_with fail
    rw [← Hw.out, HR.out, HV.out]
    exact ⟨none, 0, rfl, (OwnL.nil (B := 0) (K := 0)).rd, Hb0.out⟩
  · obtain ⟨k, d, hk, hd, hk3, hd40⟩ := pol_kd HP1.out (by rw [HL1.out]; omega)
    have hlim := nrm_lim0 HP.out (by rw [HL1.out]; omega) hk hd HC.out
    have HV := Lib.hid (nrmO_ok HP.out (by rw [HL1.out]; omega) hk hd (by omega))
    have HXW := Lib.hid (pol_within' HP1.out hk hd)
    have HMS := Lib.hid (mons_small hk3 hd40)
    have hpos : 0 < n1 := by omega
    have hne : ((n1 : Int) == 0) = false := by simp; omega
    have HD := fun (W : World) (hB : Below w0.heap.size w0 W) => Lib.hid (l08Degree_any A1 n1 c1 _ xss W (rdL_here H1.out hB) hn1 ht1)
    have HRo := fun W : World => Lib.hid (rows09_any k d v (degL xss) W (by omega) hd hk3 hd40 (by omega))
    obtain ⟨dg, hdg⟩ : ∃ g, g = degL xss := ⟨_, rfl⟩
    rw [← hdg] at HD HRo
    obtain ⟨rows, hrows⟩ : ∃ r, r = hitR k d := ⟨_, rfl⟩
    rw [← hrows] at HRo HV
    have HRW : Hid (∀ r ∈ rows, Within (mons k d) r ∧ r ≠ []) := Lib.hid (by rw [hrows]; exact gens_hit.rows)
    have HRl : Hid (rows.length ≤ 1000) := Lib.hid (by rw [hrows]; exact Nat.le_trans gens_hit.len (by omega))
    clear hz hk hd hdg hrows hlim
    go_enter Tryz.func100, Tryz.ntmps100
    go_wp2_with fail
    rw [← Hw.out, ← Hbe.out]
    clear k00 k01
    have Bd := Lib.hid (show Below w0.heap.size w0 w0.drew from below_drewN (Below.refl _ _) 1)
    have kd0 := (F0.out.below Bd.out).at_ (b := b) (o := 0) (V := .int .i64 v) (by simp)
    have kd1 := (F0.out.below Bd.out).at_ (b := b) (o := 1) (V := .slice A1 n1 c1) (by simp)
    go_region_held3 (fun w' => w'.cell? ⟨b, 0, none⟩ = some (.int .i64 v) ∧ w'.cell? ⟨b, 1, none⟩ = some (.slice A1 n1 c1))
      (first | (with_reducible exact ⟨kd0, kd1⟩) | (with_reducible exact ⟨ke0, ke1⟩) | (with_reducible exact ⟨kf0, kf1⟩))
      (first
        | (go_at_call 52
           refine (HD _ Bd.out).out.mono ?_
           rintro e w2 ⟨rfl, rfl⟩)
        | (go_at_call 83
           refine (HRo _).out.mono ?_
           rintro e w3 ⟨A3, c3, rfl, hr3, hb3⟩
           have B3 := Lib.hid (Bd.out.trans (hb3.mono Bd.out.size))
           have C3 := Lib.hid (row09_any (mons k d) A3 A1 rows.length c3 n1 c1 rows xss w3 HMS.out hr3 (rdL_here H1.out B3.out) (by have := HRl.out; omega) HRW.out HXW.out)
           have ke0 := (F0.out.below B3.out).at_ (b := b) (o := 0) (V := .int .i64 v) (by simp)
           have ke1 := (F0.out.below B3.out).at_ (b := b) (o := 1) (V := .slice A1 n1 c1) (by simp)
           clear hr3 hb3)
        | (go_at_call 122
           refine C3.out.mono ?_
           rintro e w4 ⟨A4, c4, rfl, hr4, hb4⟩
           have B4 := Lib.hid (B3.out.trans (hb4.mono B3.out.size))
           have R4 := Lib.hid hr4
           have kf0 := (F0.out.below B4.out).at_ (b := b) (o := 0) (V := .int .i64 v) (by simp)
           have kf1 := (F0.out.below B4.out).at_ (b := b) (o := 1) (V := .slice A1 n1 c1) (by simp)
           clear hr4 hb4))
    go_wp2_with fail
    rw [HR.out, HV.out]
    exact ⟨A4, c4, rfl, R4.out, Hb0.out.trans (B4.out.mono Hb0.out.size)⟩
theorem nrmO_bounds (v : Int) (f : Pol) : (nrmO v f).2.1.length ≤ 2000000 ∧ totalL (nrmO v f).2.1 ≤ 1000000000 := by
  cases hp : polB v f with
  | false => rw [nrmO_bad hp]; simp [totalL]
  | true =>
    by_cases hz : f.length = 0
    · rw [nrmO_void hp hz]; simp [totalL]
    · obtain ⟨k, d, hk, hd, hk3, hd40⟩ := pol_kd (polF_of hp) (by omega)
      by_cases hlim : 100 < (mons k d).length
      · rw [nrmO_lim hp (by omega) hk hd hlim]; simp [totalL]
      · rw [nrmO_ok hp (by omega) hk hd hlim]
        have hW : Within (mons k d) (redT (hitR k d) f) := (pol_within' (polF_of hp) hk hd).redT fun r hr => (gens_hit.rows r hr).1
        have h1 := hW.len (mons_small hk3 hd40)
        have h2 := hW.total (mons_small hk3 hd40)
        exact ⟨by show (redT (hitR k d) f).length ≤ _; omega, by show totalL (redT (hitR k d) f) ≤ _; omega⟩
set_option maxRecDepth 100000 in
set_option maxHeartbeats 1000000 in
theorem sNormalForm (v : Int) (A1 : Option Addr) (n1 c1 : Nat) (xss : List (List Int)) (w : World) (h1 : RdL w w.heap.size A1 n1 c1 xss) (hn1 : n1 ≤ 2000000) (ht1 : totalL xss ≤ 2000000) :
    Calls Tryz.prog 40 #[.agg #[.int .i64 v, .slice A1 n1 c1]] w (RetPl (nrmO v xss) w) := by
  obtain ⟨w0, b, hw0, hbe, hb0, hz0, hF⟩ := start22 w (.int .i64 v) (.slice A1 n1 c1) (.int .i64 0) (.slice none 0 0) 26 26
  have HL1 := Lib.hid h1.len
  have H1 := Lib.hid (rdL_here h1 hb0); clear h1
  have Hw := Lib.hid hw0; clear hw0
  have Hbe := Lib.hid hbe; clear hbe
  have Hb0 := Lib.hid hb0; clear hb0
  have HZ := Lib.hid hz0; clear hz0
  have F0 := Lib.hid hF; clear hF
  have X0 := Lib.hid (Below.refl w0.heap.size w0)
  have HNC : Hid ((nrmO v xss).2.2 ≠ 0 → nrmO v xss = (0, [], (nrmO v xss).2.2)) := Lib.hid (by
    unfold nrmO
    split
    · split
      · exact fun h => absurd rfl h
      · split
        · exact fun _ => rfl
        · exact fun h => absurd rfl h
    · exact fun _ => rfl)
  have HNP : Hid ((nrmO v xss).2.2 = 0 → polB v xss = true ∧ (nrmO v xss).1 = v) := Lib.hid (by
    unfold nrmO
    split
    · rename_i hp
      split
      · exact fun _ => ⟨hp, rfl⟩
      · split
        · exact fun h => by cases h
        · exact fun _ => ⟨hp, rfl⟩
    · exact fun h => by cases h)
  have HCP := fun (W : World) (hB : Below w0.heap.size w0 W) => Lib.hid (poly09_any v A1 n1 c1 xss W (rdL_here H1.out hB) hn1 ht1)
  have HCN := fun (h : polB v xss = true) (hc : (nrmO v xss).2.2 = 0) (W : World) (hB : Below w0.heap.size w0 W) => Lib.hid (normal09_any v A1 n1 c1 xss W (rdL_here H1.out hB) hn1 ht1 h hc)
  obtain ⟨o, ho⟩ : ∃ o, o = nrmO v xss := ⟨_, rfl⟩
  rw [← ho] at HNC HNP HCP HCN
  rw [← ho]
  have HOb : Hid (o.2.1.length ≤ 2000000 ∧ totalL o.2.1 ≤ 1000000000) := Lib.hid (by rw [ho]; exact nrmO_bounds v xss)
  clear ho
  go_enter Tryz.func40, Tryz.ntmps40
  go_wp2_with fail
  rw [← Hw.out, ← Hbe.out]
  have k0 := (F0.out.below X0.out).at_ (b := b) (o := 0) (V := .int .i64 v) (by simp)
  have k1 := (F0.out.below X0.out).at_ (b := b) (o := 1) (V := .slice A1 n1 c1) (by simp)
  refine (HCP _ (Below.refl _ _)).out.mono ?_
  rintro e w1 ⟨rfl, hb1⟩
  have X1 := Lib.hid hb1; clear hb1 k0 k1
  have k0 := (F0.out.below X1.out).at_ (b := b) (o := 0) (V := .int .i64 v) (by simp)
  have k1 := (F0.out.below X1.out).at_ (b := b) (o := 1) (V := .slice A1 n1 c1) (by simp)
  by_cases hc : o.2.2 = 0
  · obtain ⟨o1, T, oc⟩ := o
    obtain rfl : oc = 0 := hc
    obtain ⟨hp, hv1⟩ := HNP.out rfl
    obtain rfl : o1 = v := hv1
    have HCN2 := HCN hp rfl
    clear HCN HCP hp
    obtain ⟨l, hl⟩ : ∃ l, l = T.length := ⟨_, rfl⟩
    have HLl := Lib.hid hl
    have Bd := Lib.hid (show Below w0.heap.size w0 w1.drew from below_drewN X1.out 1)
    have Cd := Lib.hid (F0.out.below Bd.out)
    have kd0 := Cd.out.at_ (b := b) (o := 0) (V := .int .i64 o1) (by simp)
    have kd1 := Cd.out.at_ (b := b) (o := 1) (V := .slice A1 n1 c1) (by simp)
    have mm0 : b + 1 ≠ b := by omega
    have hT1 : T.length ≤ 2000000 := HOb.out.1
    have hT2 : totalL T ≤ 1000000000 := HOb.out.2
    clear hl k0 k1
    go_wp2_with fail
    go_region_held3 (fun w' => w'.cell? ⟨b, 0, none⟩ = some (.int .i64 o1) ∧ w'.cell? ⟨b, 1, none⟩ = some (.slice A1 n1 c1))
      (first | (with_reducible exact ⟨kd0, kd1⟩) | (with_reducible exact ⟨ke0, ke1⟩) | (with_reducible exact ⟨kf0, kf1⟩) | (with_reducible exact ⟨two_far mm0 kf0, two_far mm0 kf1⟩))
      (first
        | (go_at_call 100
           refine (HCN2 _ Bd.out).out.mono ?_
           rintro e w3 ⟨A3, c3, rfl, hr3, hb3⟩
           have B3 := Lib.hid (Bd.out.trans (hb3.mono Bd.out.size))
           have C3 := Lib.hid (own2_any A3 T.length c3 T w3 hr3 (by omega) (by omega))
           have ke0 := (F0.out.below B3.out).at_ (b := b) (o := 0) (V := .int .i64 o1) (by simp)
           have ke1 := (F0.out.below B3.out).at_ (b := b) (o := 1) (V := .slice A1 n1 c1) (by simp)
           clear hr3 hb3)
        | (go_at_call 99
           refine C3.out.mono ?_
           rintro e w4 ⟨A4, c4, rfl, ho4, hb4⟩
           have B4 := Lib.hid (B3.out.trans (hb4.mono B3.out.size))
           have O4 := Lib.hid ((ho4.m (Nat.le_refl _)).mono B3.out.size (Nat.le_refl _))
           have C4 := Lib.hid (F0.out.below B4.out)
           have kf0 := C4.out.at_ (b := b) (o := 0) (V := .int .i64 o1) (by simp)
           have kf1 := C4.out.at_ (b := b) (o := 1) (V := .slice A1 n1 c1) (by simp)
           have q0 := C4.out.at_ (b := b + 1) (o := 0) (V := .int .i64 0) (by simp)
           have q1 := C4.out.at_ (b := b + 1) (o := 1) (V := .slice none 0 0) (by simp)
           have f0 := C4.out.fr (b := b + 1) (o := 0) (V := .int .i64 0) (by simp)
           have f1 := C4.out.fr (b := b + 1) (o := 1) (V := .slice none 0 0) (by simp)
           clear ho4 hb4))
    have hres := cells_end q0 q1 (.int .i64 o1) (.slice A4 T.length c4)
    go_wp2_with fail
    refine bodyPost_ret (v := .tuple #[.agg #[.int .i64 o1, .slice A4 T.length c4], .int .i64 0]) (by simp [results, Tryz.results40, go_sem, hres.1, hres.2]) rfl ?_
    exact RetNC.mk (V := w0.heap.size) rfl rfl rfl rfl (Hb0.out.trans (B4.out.mono Hb0.out.size)) (by rw [Hbe.out]; omega) (by rw [HZ.out]; omega) O4.out (Nat.le_refl _)
  · have HV := Lib.hid (HNC.out hc)
    obtain ⟨kc, hkc⟩ : ∃ kc, kc = o.2.2 := ⟨_, rfl⟩
    have HKC := Lib.hid hkc
    have hne2 : ¬ kc = 0 := by rw [hkc]; exact hc
    have hne : (kc != 0) = true := by simpa using hne2
    rw [← hkc]
    have q0 := (F0.out.below X1.out).at_ (b := b + 1) (o := 0) (V := .int .i64 0) (by simp)
    have q1 := (F0.out.below X1.out).at_ (b := b + 1) (o := 1) (V := .slice none 0 0) (by simp)
    have f0 := (F0.out.below X1.out).fr (b := b + 1) (o := 0) (V := .int .i64 0) (by simp)
    have f1 := (F0.out.below X1.out).fr (b := b + 1) (o := 1) (V := .slice none 0 0) (by simp)
    have hres := cells_end q0 q1 (.int .i64 0) (.slice none 0 0)
    clear hkc
    go_wp2_with fail
    refine bodyPost_ret (v := .tuple #[.agg #[.int .i64 0, .slice none 0 0], .int .i64 kc]) (by simp [results, Tryz.results40, go_sem, hres.1, hres.2]) rfl ?_
    exact RetNC.bad (by rw [HV.out]) (by rw [HV.out]) HKC.out (Hb0.out.trans (X1.out.mono Hb0.out.size)) (by rw [Hbe.out]; omega)
end Go.Proofs.YtoodhbafleemjaaGreat
