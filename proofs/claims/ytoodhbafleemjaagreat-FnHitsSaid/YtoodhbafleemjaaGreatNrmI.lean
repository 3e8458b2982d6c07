/- impl.NormalForm. -/
import Derived.Test.YtoodhbafleemjaaGreatHitI
import Derived.Test.YtoodhbafleemjaaGreatPlyA
namespace Go.Proofs.YtoodhbafleemjaaGreat
open Go.RowKit
set_option linter.unusedVariables false

theorem below_al {wz W : World} (h : Below wz.heap.size wz W) (o : Obj) : Below wz.heap.size wz (W.alloc o) := h.alloc h.size o
theorem below_dr {wz W : World} (h : Below wz.heap.size wz W) : Below wz.heap.size wz W.drew := below_drewN h 1
theorem below_set2 {wz W : World} {q : Nat} (h : Below wz.heap.size wz W) (hq : wz.heap.size ≤ q) (V0 V1 : Value) : Below wz.heap.size wz ((W.setCell ⟨q, 0, none⟩ V0).setCell ⟨q, 1, none⟩ V1) := (h.setCell (p := ⟨q, 0, none⟩) hq V0).setCell (p := ⟨q, 1, none⟩) hq V1
theorem cells_app {L M : List (Nat × Nat × Value)} {w : World} (h : Cells L w) (k : Cells M w) : Cells (L ++ M) w :=
  ⟨fun x hx => (List.mem_append.1 hx).elim (h.c x) (k.c x), fun x hx => (List.mem_append.1 hx).elim (h.f x) (k.f x), fun x hx => (List.mem_append.1 hx).elim (h.lt x) (k.lt x)⟩
theorem cells_swap {a b c d : Nat × Nat × Value} {w : World} (h : Cells [a, b, c, d] w) : Cells [c, d, a, b] w := h.sub fun x hx => by
  simp only [List.mem_cons, List.not_mem_nil, or_false] at hx ⊢
  rcases hx with rfl | rfl | rfl | rfl <;> simp
/-- what is left of terms, as the program reads it off a mask -/
theorem pick_step {M t : Pol} {u m : Nat} {x : List Int} (hu : IsMask M t u) (hx : M[m]? = some x) : (M.take (m + 1)).filter (fun z => decide (z ∈ t)) = (M.take m).filter (fun z => decide (z ∈ t)) ++ (if u.testBit m = true then [x] else []) := by
  rw [List.take_add_one, hx, List.filter_append]
  have hb := hu.at_ hx
  by_cases h : u.testBit m = true
  · rw [if_pos h]; simp [hb.1 h]
  · rw [if_neg h]; simpa using fun hm => h (hb.2 hm)
theorem pick_end {M t : Pol} (hM : Asc M) (ht : Asc t) (hs : ∀ z ∈ t, z ∈ M) : M.filter (fun z => decide (z ∈ t)) = t :=
  asc_ext (List.Pairwise.filter _ hM) ht fun z => by
    rw [List.mem_filter]
    simp only [decide_eq_true_eq]
    exact ⟨fun h => h.2, fun h => ⟨hs z h, h⟩⟩
theorem redT_nrm {k d : Nat} {f : Pol} (hf : Within (mons k d) f) : Within (mons k d) (redT (hitR k d) f) := hf.redT fun r hr => by
  have hg := gens_J (k := k) (d := d) (J := hitJ d) (fun j hj => by
    unfold hitJ at hj
    by_cases hd : d = 0
    · rw [if_pos hd] at hj; omega
    · rw [if_neg hd] at hj
      exact Nat.le_trans (Nat.pow_le_pow_right (by decide) (by omega : j ≤ Nat.log2 d)) (Nat.log2_self_le hd))
  exact (hg.rows r hr).1
theorem pol_within {v : Int} {f : Pol} {k d : Nat} (hp : PolF v f) (hv : v = ((k + 1 : Nat) : Int)) (hd : degL f = d) : Within (mons k d) f := ⟨hp.asc, fun z hz => by
  have := hp.degs hv z hz
  rw [hd] at this
  exact (mons_mem k d z).2 this⟩

set_option maxRecDepth 100000 in
set_option maxHeartbeats 4000000 in
theorem iNormalForm (v : Int) (A1 : Option Addr) (n1 c1 : Nat) (xss : List (List Int)) (w : World) (h1 : RdL w w.heap.size A1 n1 c1 xss) (hn1 : n1 ≤ 2000000) (ht1 : totalL xss ≤ 2000000) :
    Calls Tryz.prog 39 #[.agg #[.int .i64 v, .slice A1 n1 c1]] w (RetPl (nrmO v xss) w) := by
  obtain ⟨w0, b, hw0, hbe, hb0, hz0, hF⟩ := start22 w (.int .i64 v) (.slice A1 n1 c1) (.int .i64 0) (.slice none 0 0) 26 26
  have HL1 := Lib.hid h1.len
  have H1 := Lib.hid (rdL_here h1 hb0); clear h1
  have Hw := Lib.hid hw0; clear hw0
  have Hbe := Lib.hid hbe; clear hbe
  have Hb0 := Lib.hid hb0; clear hb0
  have HZ := Lib.hid hz0; clear hz0
  have F0 := Lib.hid hF; clear hF
  have X0 := Lib.hid (Below.refl w0.heap.size w0)
  obtain ⟨r1, hr1⟩ : ∃ r, r = polB v xss := ⟨_, rfl⟩
  have HR1 := Lib.hid hr1; clear hr1
  obtain ⟨o, ho⟩ : ∃ o, o = nrmO v xss := ⟨_, rfl⟩
  have HO := Lib.hid ho
  rw [← ho]
  clear ho
  go_enter Tryz.func39, Tryz.ntmps39
  go_wp2_with fail
  rw [← Hw.out, ← Hbe.out]
  have k0 := (F0.out.below X0.out).at_ (b := b) (o := 0) (V := .int .i64 v) (by simp)
  have k1 := (F0.out.below X0.out).at_ (b := b) (o := 1) (V := .slice A1 n1 c1) (by simp)
  refine (iIsPoly v A1 n1 c1 xss _ H1.out hn1 ht1).mono ?_
  rintro e w1 ⟨rfl, hb1⟩
  rw [← HR1.out]
  have X1 := Lib.hid hb1; clear hb1 k0 k1
  have k0 := (F0.out.below X1.out).at_ (b := b) (o := 0) (V := .int .i64 v) (by simp)
  have k1 := (F0.out.below X1.out).at_ (b := b) (o := 1) (V := .slice A1 n1 c1) (by simp)
  cases r1
  · have HV := Lib.hid (HO.out.trans (nrmO_bad HR1.out.symm))
    have q0 := (F0.out.below X1.out).at_ (b := b + 1) (o := 0) (V := .int .i64 0) (by simp)
    have q1 := (F0.out.below X1.out).at_ (b := b + 1) (o := 1) (V := .slice none 0 0) (by simp)
    have f0 := (F0.out.below X1.out).fr (b := b + 1) (o := 0) (V := .int .i64 0) (by simp)
    have f1 := (F0.out.below X1.out).fr (b := b + 1) (o := 1) (V := .slice none 0 0) (by simp)
    have hres := cells_end q0 q1 (.int .i64 0) (.slice none 0 0)
    go_wp2_with fail
    refine bodyPost_ret (v := .tuple #[.agg #[.int .i64 0, .slice none 0 0], .int .i64 1]) (by simp [results, Tryz.results39, go_sem, hres.1, hres.2]) rfl ?_
    exact RetNC.bad (by rw [HV.out]) (by rw [HV.out]) (by rw [HV.out]) (Hb0.out.trans (X1.out.mono Hb0.out.size)) (by rw [Hbe.out]; omega)
  · have HP1 := Lib.hid (polF_of HR1.out.symm)
    go_wp2_with fail
    refine (isZeroP_any v A1 n1 c1 _ hn1).mono ?_
    rintro e w3 ⟨rfl, hb3⟩
    have X3 := Lib.hid (X1.out.trans (hb3.mono X1.out.size)); clear hb3 k0 k1
    have k0 := (F0.out.below X3.out).at_ (b := b) (o := 0) (V := .int .i64 v) (by simp)
    have k1 := (F0.out.below X3.out).at_ (b := b) (o := 1) (V := .slice A1 n1 c1) (by simp)
    by_cases hz1 : n1 = 0
    · have HV := Lib.hid (HO.out.trans (nrmO_void HR1.out.symm (by rw [HL1.out]; exact hz1)))
      rw [decide_eq_true hz1]
      clear hz1
      have q0 := (F0.out.below X3.out).at_ (b := b + 1) (o := 0) (V := .int .i64 0) (by simp)
      have q1 := (F0.out.below X3.out).at_ (b := b + 1) (o := 1) (V := .slice none 0 0) (by simp)
      have f0 := (F0.out.below X3.out).fr (b := b + 1) (o := 0) (V := .int .i64 0) (by simp)
      have f1 := (F0.out.below X3.out).fr (b := b + 1) (o := 1) (V := .slice none 0 0) (by simp)
      have hres := cells_end q0 q1 (.int .i64 v) (.slice none 0 0)
      go_wp2_with fail
      refine bodyPost_ret (v := .tuple #[.agg #[.int .i64 v, .slice none 0 0], .int .i64 0]) (by simp [results, Tryz.results39, go_sem, hres.1, hres.2]) rfl ?_
      exact RetNC.void (by rw [HV.out]) (by rw [HV.out]) (by rw [HV.out]) (Hb0.out.trans (X3.out.mono Hb0.out.size)) (by rw [Hbe.out]; omega)
    · rw [decide_eq_false hz1]
      have HZ1 := Lib.hid (show 0 < n1 by omega)
      clear hz1
      obtain ⟨k, hk⟩ : ∃ k : Nat, v = ((k + 1 : Nat) : Int) := ⟨(v - 1).toNat, by have := HP1.out.lo; omega⟩
      have hk3 : k ≤ 3 := by have := HP1.out.hi; omega
      obtain ⟨d, hd⟩ : ∃ d : Nat, degL xss = d := ⟨(degL xss).toNat, by
        have h0 : 0 ≤ degL xss := by
          rw [HP1.out.deg.1]
          have hm : xss.headD [] ∈ xss := by
            match xss, HL1 with
            | [], HL1 => have h2 := HL1.out; have h3 := HZ1.out; simp at h2; omega
            | x :: _, _ => simp
          exact sum_nonneg' fun a ha => ((HP1.out.each _ hm).2.1 a ha).1
        omega⟩
      have hd40 : d ≤ 40 := by have := HP1.out.deg.2; omega
      have HK := Lib.hid hk
      have HD := Lib.hid hd
      have D1 := fun (W : World) (hB : Below w0.heap.size w0 W) => Lib.hid (degreeP_any v A1 n1 c1 _ xss W (rdL_here H1.out hB) (Nat.le_refl _) hn1 ht1)
      rw [hd] at D1
      have HKv := Lib.hid (show v = (k : Int) + 1 by omega)
      have HXW := Lib.hid (pol_within HP1.out hk hd)
      clear hk hd
      have Bd5 := Lib.hid (show Below w0.heap.size w0 w3.drew from below_drewN X3.out 1)
      have Cd := Lib.hid (F0.out.below Bd5.out)
      have kd0 := Cd.out.at_ (b := b) (o := 0) (V := .int .i64 v) (by simp)
      have kd1 := Cd.out.at_ (b := b) (o := 1) (V := .slice A1 n1 c1) (by simp)
      clear k0 k1
      by_cases hlim : 100 < (mons k d).length
      · have HV := Lib.hid (HO.out.trans (nrmO_lim HR1.out.symm (by rw [HL1.out]; exact HZ1.out) HK.out HD.out hlim))
        have C2 := fun W : World => Lib.hid (hitsNo_any k d v (d : Int) W HKv.out rfl hk3 hd40 hlim)
        clear hlim
        go_wp2_with fail
        go_region_held3 (fun w' => w'.cell? ⟨b, 0, none⟩ = some (.int .i64 v) ∧ w'.cell? ⟨b, 1, none⟩ = some (.slice A1 n1 c1))
          (first | (with_reducible exact ⟨kd0, kd1⟩) | (with_reducible exact ⟨ka0, ka1⟩) | (with_reducible exact ⟨ke0, ke1⟩))
          (first
            | (go_at_call 47
               refine (D1 _ Bd5.out).out.mono ?_
               rintro e w4 ⟨rfl, hb4⟩
               have X4 := Lib.hid (Bd5.out.trans (hb4.mono Bd5.out.size))
               have C4 := Lib.hid (F0.out.below X4.out)
               have ka0 := C4.out.at_ (b := b) (o := 0) (V := .int .i64 v) (by simp)
               have ka1 := C4.out.at_ (b := b) (o := 1) (V := .slice A1 n1 c1) (by simp)
               clear hb4)
            | (go_at_call 94
               refine (C2 _).out.mono ?_
               rintro e w5 ⟨rfl, hb5⟩
               have X5 := Lib.hid (X4.out.trans (hb5.mono X4.out.size))
               have C5 := Lib.hid (F0.out.below X5.out)
               have ke0 := C5.out.at_ (b := b) (o := 0) (V := .int .i64 v) (by simp)
               have ke1 := C5.out.at_ (b := b) (o := 1) (V := .slice A1 n1 c1) (by simp)
               clear hb5))
        have q0 := (F0.out.below X5.out).at_ (b := b + 1) (o := 0) (V := .int .i64 0) (by simp)
        have q1 := (F0.out.below X5.out).at_ (b := b + 1) (o := 1) (V := .slice none 0 0) (by simp)
        have f0 := (F0.out.below X5.out).fr (b := b + 1) (o := 0) (V := .int .i64 0) (by simp)
        have f1 := (F0.out.below X5.out).fr (b := b + 1) (o := 1) (V := .slice none 0 0) (by simp)
        have hres := cells_end q0 q1 (.int .i64 0) (.slice none 0 0)
        go_wp2_with fail
        refine bodyPost_ret (v := .tuple #[.agg #[.int .i64 0, .slice none 0 0], .int .i64 3]) (by simp [results, Tryz.results39, go_sem, hres.1, hres.2]) rfl ?_
        exact RetNC.bad (by rw [HV.out]) (by rw [HV.out]) (by rw [HV.out]) (Hb0.out.trans (X5.out.mono Hb0.out.size)) (by rw [Hbe.out]; omega)
      · have HV := Lib.hid (HO.out.trans (nrmO_ok HR1.out.symm (by rw [HL1.out]; exact HZ1.out) HK.out HD.out hlim))
        have C2 := fun W : World => Lib.hid (hitsOf_any k d v (d : Int) W HKv.out rfl hk3 hd40 (by omega))
        have H100 := Lib.hid (show (mons k d).length ≤ 100 by omega)
        clear hlim
        go_wp2_with fail
        go_region_held3 (fun w' => w'.cell? ⟨b, 0, none⟩ = some (.int .i64 v) ∧ w'.cell? ⟨b, 1, none⟩ = some (.slice A1 n1 c1))
          (first | (with_reducible exact ⟨kd0, kd1⟩) | (with_reducible exact ⟨ka0, ka1⟩) | (with_reducible exact ⟨ke0, ke1⟩))
          (first
            | (go_at_call 47
               refine (D1 _ Bd5.out).out.mono ?_
               rintro e w4 ⟨rfl, hb4⟩
               have X4 := Lib.hid (Bd5.out.trans (hb4.mono Bd5.out.size))
               have C4 := Lib.hid (F0.out.below X4.out)
               have ka0 := C4.out.at_ (b := b) (o := 0) (V := .int .i64 v) (by simp)
               have ka1 := C4.out.at_ (b := b) (o := 1) (V := .slice A1 n1 c1) (by simp)
               clear hb4)
            | (go_at_call 94
               refine (C2 _).out.mono ?_
               rintro e w6 ⟨H, mb, nM, cM, AM, rfl, hst⟩
               have X6 := Lib.hid (X4.out.trans (hst.bel.mono X4.out.size))
               have HST := Lib.hid hst
               have C5 := Lib.hid (F0.out.below X6.out)
               have ke0 := C5.out.at_ (b := b) (o := 0) (V := .int .i64 v) (by simp)
               have ke1 := C5.out.at_ (b := b) (o := 1) (V := .slice A1 n1 c1) (by simp)
               clear hst))
        obtain ⟨M, hMe⟩ : ∃ M, M = mons k d := ⟨_, rfl⟩
        rw [← hMe] at HST H100 HXW
        have HMe := Lib.hid hMe
        have HMS : Hid (Small M) := Lib.hid (by rw [hMe]; exact mons_small hk3 hd40)
        have HMA : Hid (Asc M) := Lib.hid (by rw [hMe]; exact mons_asc k d)
        obtain ⟨s, f, hh, hrm, hfb, hs⟩ := HST.out.ex
        have HH := Lib.hid hh
        have HRM := Lib.hid hrm
        have HFB := Lib.hid hfb
        have HNM := Lib.hid hh.rd.len
        have hnM : nM ≤ 100 := by rw [← hh.rd.len]; exact H100.out
        have HMK := Lib.hid (mask_of HMA.out HXW.out.asc HXW.out.sub)
        have HGJ : Hid (Gens M (gensTo k d (hitJ d))) := Lib.hid (by
          rw [hMe]
          refine gens_J (fun j hj => ?_)
          unfold hitJ at hj
          by_cases hd : d = 0
          · rw [if_pos hd] at hj; omega
          · rw [if_neg hd] at hj
            exact Nat.le_trans (Nat.pow_le_pow_right (by decide) (by omega : j ≤ Nat.log2 d)) (Nat.log2_self_le hd))
        obtain ⟨y, hy⟩ : ∃ y, y = maskF M xss := ⟨_, rfl⟩
        have C3 := fun (W : World) (hB : Below w6.heap.size w6 W) => Lib.hid (mask_any H mb s nM cM n1 c1 AM A1 M xss f W (HH.out.below hB) (rdL_here H1.out (X6.out.trans (hB.mono X6.out.size))) HMS.out HMA.out H100.out HXW.out)
        have HY128 := Lib.hid (mask128 HMK.out H100.out)
        rw [← hy] at C3 HMK HY128
        have C4' := fun (W : World) (hB : Below w6.heap.size w6 W) => Lib.hid (normal_any H mb s nM cM y AM M f W (HH.out.below hB) hnM HY128.out HFB.out)
        obtain ⟨u, hu⟩ : ∃ u, u = normI f nM y := ⟨_, rfl⟩
        rw [← hu] at C4'
        obtain ⟨T, hT⟩ : ∃ T, T = redT (hitR k d) xss := ⟨_, rfl⟩
        have HT := Lib.hid hT
        have HUM : Hid (IsMask M T u) := Lib.hid (by
          rw [hu, hT, ← HNM.out]
          refine HRM.out.norm HMA.out ?_ ?_ HXW.out.asc HMK.out
          · exact HGJ.out.ok
          · exact fun r hr => (HGJ.out.rows r hr).1.sub)
        have HTW : Hid (Within M T) := Lib.hid (by rw [hT]; exact HXW.out.redT fun r hr => (HGJ.out.rows r hr).1)
        have HU128 := Lib.hid (mask128 HUM.out H100.out)
        have C4 := C4'
        rw [wV_eq] at C4
        clear C4' hy hu hT hMe hh hrm hfb hs kd0 kd1 ke0 ke1
        have Bd := Lib.hid (show Below w6.heap.size w6 w6.drew from below_drewN (Below.refl _ _) 1)
        have HC := Lib.hid (show ∀ W : World, Below w6.heap.size w6 W → W.cell? ⟨b, 0, none⟩ = some (.int .i64 v) ∧ W.cell? ⟨b, 1, none⟩ = some (.slice A1 n1 c1) from fun W hB => by
          have := C5.out.below hB
          exact ⟨this.at_ (b := b) (o := 0) (V := .int .i64 v) (by simp), this.at_ (b := b) (o := 1) (V := .slice A1 n1 c1) (by simp)⟩)
        obtain ⟨N6, hN6⟩ : ∃ N, N = w6.heap.size := ⟨_, rfl⟩
        have HN6 := Lib.hid hN6
        clear hN6
        have ke0 := C5.out.at_ (b := b) (o := 0) (V := .int .i64 v) (by simp)
        have ke1 := C5.out.at_ (b := b) (o := 1) (V := .slice A1 n1 c1) (by simp)
        go_upto_region 8 with fail
        clear ke0 ke1
        go_cut [6, 7] (fun a c wc => ∃ q6 q7 : Nat, a = .pointer (some ⟨q6, 0, none⟩) ∧ c = .pointer (some ⟨q7, 0, none⟩) ∧ Hid (Cells [(q6, 0, .int .u64 (loN u : Nat)), (q6, 1, .int .u64 (hiN u : Nat)), (q7, 0, .int .i64 v), (q7, 1, .slice none 0 0)] wc) ∧ Hid (Below w6.heap.size w6 wc) ∧ Hid (N6 ≤ q6 ∧ N6 ≤ q7 ∧ q6 ≠ q7))
        case first =>
          go_region_held3 (fun w' => w'.cell? ⟨b, 0, none⟩ = some (.int .i64 v) ∧ w'.cell? ⟨b, 1, none⟩ = some (.slice A1 n1 c1))
            (with_reducible exact HC.out _ (by first | exact Bd.out | exact below_dr (below_al (Below.refl _ _) _) | exact below_dr (below_al (below_al (Below.refl _ _) _) _) | exact B1.out | exact below_al B1.out _ | exact below_al (below_al B1.out _) _ | exact B2.out | exact below_al B2.out _ | exact below_al (below_al B2.out _) _ | exact below_set2 B2.out (by first | exact Nat.le_refl _ | exact Nat.le_succ _ | exact B1.out.size | exact Nat.le_succ_of_le B1.out.size) _ _ | exact below_set2 (below_set2 B2.out (by first | exact Nat.le_refl _ | exact Nat.le_succ _ | exact B1.out.size | exact Nat.le_succ_of_le B1.out.size) _ _) (by first | exact Nat.le_refl _ | exact Nat.le_succ _ | exact B1.out.size | exact Nat.le_succ_of_le B1.out.size) _ _ | exact below_al (below_set2 B2.out (by first | exact Nat.le_refl _ | exact Nat.le_succ _ | exact B1.out.size | exact Nat.le_succ_of_le B1.out.size) _ _) _))
            (first
              | (go_at_call 96
                 refine (C3 _ (by first | exact Bd.out | exact below_dr (below_al (Below.refl _ _) _) | exact below_dr (below_al (below_al (Below.refl _ _) _) _))).out.mono ?_
                 rintro e u1 ⟨rfl, hb1⟩
                 have B1 : Hid (Below w6.heap.size w6 u1) := by
                   first
                     | exact Lib.hid (Bd.out.trans (hb1.mono Bd.out.size))
                     | exact Lib.hid ((below_dr (below_al (Below.refl _ _) _)).trans (hb1.mono (below_dr (below_al (Below.refl _ _) _)).size))
                     | exact Lib.hid ((below_dr (below_al (below_al (Below.refl _ _) _) _)).trans (hb1.mono (below_dr (below_al (below_al (Below.refl _ _) _) _)).size))
                 first
                    | (have E6_u1 : Hid (Cells [(w6.heap.size, 0, .int .u64 0), (w6.heap.size, 1, .int .u64 0)] u1) := Lib.hid ((show Cells [(w6.heap.size, 0, .int .u64 0), (w6.heap.size, 1, .int .u64 0)] ((w6.alloc (.cells #[.int .u64 0, .int .u64 0] 104)).alloc (.cells #[.int .i64 0, .slice none 0 0] 26)).drew from ((Cells.nil.alloc2 (.int .u64 0) (.int .u64 0) 104 (w := w6) (by simp)).below ((Below.refl _ _).alloc (Nat.le_refl _) (.cells #[.int .i64 0, .slice none 0 0] 26))).drewN 1).below hb1)
                       have E7_u1 : Hid (Cells [(w6.heap.size + 1, 0, .int .i64 0), (w6.heap.size + 1, 1, .slice none 0 0)] u1) := Lib.hid ((show Cells [(w6.heap.size + 1, 0, .int .i64 0), (w6.heap.size + 1, 1, .slice none 0 0)] ((w6.alloc (.cells #[.int .u64 0, .int .u64 0] 104)).alloc (.cells #[.int .i64 0, .slice none 0 0] 26)).drew from (Cells.nil.alloc2 (.int .i64 0) (.slice none 0 0) 26 (w := (w6.alloc (.cells #[.int .u64 0, .int .u64 0] 104))) (by simp)).drewN 1).below hb1))
                    | (have E7_u1 : Hid (Cells [(w6.heap.size, 0, .int .i64 0), (w6.heap.size, 1, .slice none 0 0)] u1) := Lib.hid ((show Cells [(w6.heap.size, 0, .int .i64 0), (w6.heap.size, 1, .slice none 0 0)] ((w6.alloc (.cells #[.int .i64 0, .slice none 0 0] 26)).alloc (.cells #[.int .u64 0, .int .u64 0] 104)).drew from ((Cells.nil.alloc2 (.int .i64 0) (.slice none 0 0) 26 (w := w6) (by simp)).below ((Below.refl _ _).alloc (Nat.le_refl _) (.cells #[.int .u64 0, .int .u64 0] 104))).drewN 1).below hb1)
                       have E6_u1 : Hid (Cells [(w6.heap.size + 1, 0, .int .u64 0), (w6.heap.size + 1, 1, .int .u64 0)] u1) := Lib.hid ((show Cells [(w6.heap.size + 1, 0, .int .u64 0), (w6.heap.size + 1, 1, .int .u64 0)] ((w6.alloc (.cells #[.int .i64 0, .slice none 0 0] 26)).alloc (.cells #[.int .u64 0, .int .u64 0] 104)).drew from (Cells.nil.alloc2 (.int .u64 0) (.int .u64 0) 104 (w := (w6.alloc (.cells #[.int .i64 0, .slice none 0 0] 26))) (by simp)).drewN 1).below hb1))
                    | (have E6_u1 : Hid (Cells [(w6.heap.size, 0, .int .u64 0), (w6.heap.size, 1, .int .u64 0)] u1) := Lib.hid ((show Cells [(w6.heap.size, 0, .int .u64 0), (w6.heap.size, 1, .int .u64 0)] (w6.alloc (.cells #[.int .u64 0, .int .u64 0] 104)).drew from (Cells.nil.alloc2 (.int .u64 0) (.int .u64 0) 104 (w := w6) (by simp)).drewN 1).below hb1))
                    | (have E7_u1 : Hid (Cells [(w6.heap.size, 0, .int .i64 0), (w6.heap.size, 1, .slice none 0 0)] u1) := Lib.hid ((show Cells [(w6.heap.size, 0, .int .i64 0), (w6.heap.size, 1, .slice none 0 0)] (w6.alloc (.cells #[.int .i64 0, .slice none 0 0] 26)).drew from (Cells.nil.alloc2 (.int .i64 0) (.slice none 0 0) 26 (w := w6) (by simp)).drewN 1).below hb1))
                    | skip
                 rw [wV_eq]
                 clear hb1)
              | (go_at_call 95
                 refine (C4 _ (by first | exact B1.out | exact below_al B1.out _ | exact below_al (below_al B1.out _) _)).out.mono ?_
                 rintro e u2 ⟨rfl, hb2⟩
                 have D2 : Hid (Below u1.heap.size u1 u2) := by
                   first
                     | exact Lib.hid hb2
                     | exact Lib.hid ((below_al (Below.refl _ _) _).trans (hb2.mono (below_al (Below.refl _ _) _).size))
                     | exact Lib.hid ((below_al (below_al (Below.refl _ _) _) _).trans (hb2.mono (below_al (below_al (Below.refl _ _) _) _).size))
                 have B2 : Hid (Below w6.heap.size w6 u2) := Lib.hid (B1.out.trans (D2.out.mono B1.out.size))
                 first
                    | (have E6_u2 : Hid (Cells [(u1.heap.size, 0, .int .u64 0), (u1.heap.size, 1, .int .u64 0)] u2) := Lib.hid ((show Cells [(u1.heap.size, 0, .int .u64 0), (u1.heap.size, 1, .int .u64 0)] ((u1.alloc (.cells #[.int .u64 0, .int .u64 0] 104)).alloc (.cells #[.int .i64 0, .slice none 0 0] 26)) from (Cells.nil.alloc2 (.int .u64 0) (.int .u64 0) 104 (w := u1) (by simp)).below ((Below.refl _ _).alloc (Nat.le_refl _) (.cells #[.int .i64 0, .slice none 0 0] 26))).below hb2)
                       have E7_u2 : Hid (Cells [(u1.heap.size + 1, 0, .int .i64 0), (u1.heap.size + 1, 1, .slice none 0 0)] u2) := Lib.hid ((show Cells [(u1.heap.size + 1, 0, .int .i64 0), (u1.heap.size + 1, 1, .slice none 0 0)] ((u1.alloc (.cells #[.int .u64 0, .int .u64 0] 104)).alloc (.cells #[.int .i64 0, .slice none 0 0] 26)) from Cells.nil.alloc2 (.int .i64 0) (.slice none 0 0) 26 (w := (u1.alloc (.cells #[.int .u64 0, .int .u64 0] 104))) (by simp)).below hb2))
                    | (have E7_u2 : Hid (Cells [(u1.heap.size, 0, .int .i64 0), (u1.heap.size, 1, .slice none 0 0)] u2) := Lib.hid ((show Cells [(u1.heap.size, 0, .int .i64 0), (u1.heap.size, 1, .slice none 0 0)] ((u1.alloc (.cells #[.int .i64 0, .slice none 0 0] 26)).alloc (.cells #[.int .u64 0, .int .u64 0] 104)) from (Cells.nil.alloc2 (.int .i64 0) (.slice none 0 0) 26 (w := u1) (by simp)).below ((Below.refl _ _).alloc (Nat.le_refl _) (.cells #[.int .u64 0, .int .u64 0] 104))).below hb2)
                       have E6_u2 : Hid (Cells [(u1.heap.size + 1, 0, .int .u64 0), (u1.heap.size + 1, 1, .int .u64 0)] u2) := Lib.hid ((show Cells [(u1.heap.size + 1, 0, .int .u64 0), (u1.heap.size + 1, 1, .int .u64 0)] ((u1.alloc (.cells #[.int .i64 0, .slice none 0 0] 26)).alloc (.cells #[.int .u64 0, .int .u64 0] 104)) from Cells.nil.alloc2 (.int .u64 0) (.int .u64 0) 104 (w := (u1.alloc (.cells #[.int .i64 0, .slice none 0 0] 26))) (by simp)).below hb2))
                    | (have E6_u2 : Hid (Cells [(u1.heap.size, 0, .int .u64 0), (u1.heap.size, 1, .int .u64 0)] u2) := Lib.hid ((show Cells [(u1.heap.size, 0, .int .u64 0), (u1.heap.size, 1, .int .u64 0)] (u1.alloc (.cells #[.int .u64 0, .int .u64 0] 104)) from Cells.nil.alloc2 (.int .u64 0) (.int .u64 0) 104 (w := u1) (by simp)).below hb2))
                    | (have E7_u2 : Hid (Cells [(u1.heap.size, 0, .int .i64 0), (u1.heap.size, 1, .slice none 0 0)] u2) := Lib.hid ((show Cells [(u1.heap.size, 0, .int .i64 0), (u1.heap.size, 1, .slice none 0 0)] (u1.alloc (.cells #[.int .i64 0, .slice none 0 0] 26)) from Cells.nil.alloc2 (.int .i64 0) (.slice none 0 0) 26 (w := u1) (by simp)).below hb2))
                    | skip
                 first
                    | (have j1 : Cells [(w6.heap.size, 0, .int .u64 0), (w6.heap.size, 1, .int .u64 0), (w6.heap.size + 1, 0, .int .i64 0), (w6.heap.size + 1, 1, .slice none 0 0)] u2 := cells_app (E6_u1.out.below D2.out) (E7_u1.out.below D2.out)
                       have n67 : w6.heap.size + 1 ≠ w6.heap.size := (by first | omega | (have h := E6_u1.out.lt _ (List.mem_cons_self ..); dsimp only at h; omega) | (have h := E7_u1.out.lt _ (List.mem_cons_self ..); dsimp only at h; omega) | (have := B1.out.size; omega))
                       have n76 : w6.heap.size ≠ w6.heap.size + 1 := fun e => n67 e.symm
                       have j60 : u2.cell? ⟨w6.heap.size, 0, none⟩ = some (.int .u64 0) := j1.c _ (List.mem_cons_self ..)
                       have fj60 : u2.frozen? ⟨w6.heap.size, 0, none⟩ = false := j1.f _ (List.mem_cons_self ..)
                       have j61 : u2.cell? ⟨w6.heap.size, 1, none⟩ = some (.int .u64 0) := j1.c _ (List.mem_cons_of_mem _ (List.mem_cons_self ..))
                       have fj61 : u2.frozen? ⟨w6.heap.size, 1, none⟩ = false := j1.f _ (List.mem_cons_of_mem _ (List.mem_cons_self ..))
                       have j70 : u2.cell? ⟨w6.heap.size + 1, 0, none⟩ = some (.int .i64 0) := j1.c _ (List.mem_cons_of_mem _ (List.mem_cons_of_mem _ (List.mem_cons_self ..)))
                       have fj70 : u2.frozen? ⟨w6.heap.size + 1, 0, none⟩ = false := j1.f _ (List.mem_cons_of_mem _ (List.mem_cons_of_mem _ (List.mem_cons_self ..)))
                       have j71 : u2.cell? ⟨w6.heap.size + 1, 1, none⟩ = some (.slice none 0 0) := j1.c _ (List.mem_cons_of_mem _ (List.mem_cons_of_mem _ (List.mem_cons_of_mem _ (List.mem_cons_self ..))))
                       have fj71 : u2.frozen? ⟨w6.heap.size + 1, 1, none⟩ = false := j1.f _ (List.mem_cons_of_mem _ (List.mem_cons_of_mem _ (List.mem_cons_of_mem _ (List.mem_cons_self ..))))
                       have j2 := j1.set2 (by intro x hx; simp only [List.mem_cons, List.not_mem_nil, or_false] at hx; rcases hx with rfl | rfl <;> exact n67) (.int .u64 (loN u : Nat)) (.int .u64 (hiN u : Nat))
                       have j80 : ((u2.setCell ⟨w6.heap.size, 0, none⟩ (.int .u64 (loN u : Nat))).setCell ⟨w6.heap.size, 1, none⟩ (.int .u64 (hiN u : Nat))).cell? ⟨w6.heap.size + 1, 0, none⟩ = some (.int .i64 0) := j2.c _ (List.mem_cons_of_mem _ (List.mem_cons_of_mem _ (List.mem_cons_self ..)))
                       have fj80 : ((u2.setCell ⟨w6.heap.size, 0, none⟩ (.int .u64 (loN u : Nat))).setCell ⟨w6.heap.size, 1, none⟩ (.int .u64 (hiN u : Nat))).frozen? ⟨w6.heap.size + 1, 0, none⟩ = false := j2.f _ (List.mem_cons_of_mem _ (List.mem_cons_of_mem _ (List.mem_cons_self ..)))
                       have j81 : ((u2.setCell ⟨w6.heap.size, 0, none⟩ (.int .u64 (loN u : Nat))).setCell ⟨w6.heap.size, 1, none⟩ (.int .u64 (hiN u : Nat))).cell? ⟨w6.heap.size + 1, 1, none⟩ = some (.slice none 0 0) := j2.c _ (List.mem_cons_of_mem _ (List.mem_cons_of_mem _ (List.mem_cons_of_mem _ (List.mem_cons_self ..))))
                       have fj81 : ((u2.setCell ⟨w6.heap.size, 0, none⟩ (.int .u64 (loN u : Nat))).setCell ⟨w6.heap.size, 1, none⟩ (.int .u64 (hiN u : Nat))).frozen? ⟨w6.heap.size + 1, 1, none⟩ = false := j2.f _ (List.mem_cons_of_mem _ (List.mem_cons_of_mem _ (List.mem_cons_of_mem _ (List.mem_cons_self ..))))
                       clear j1 j2)
                    | (have j1 : Cells [(w6.heap.size + 1, 0, .int .u64 0), (w6.heap.size + 1, 1, .int .u64 0), (w6.heap.size, 0, .int .i64 0), (w6.heap.size, 1, .slice none 0 0)] u2 := cells_app (E6_u1.out.below D2.out) (E7_u1.out.below D2.out)
                       have n67 : w6.heap.size ≠ w6.heap.size + 1 := (by first | omega | (have h := E6_u1.out.lt _ (List.mem_cons_self ..); dsimp only at h; omega) | (have h := E7_u1.out.lt _ (List.mem_cons_self ..); dsimp only at h; omega) | (have := B1.out.size; omega))
                       have n76 : w6.heap.size + 1 ≠ w6.heap.size := fun e => n67 e.symm
                       have j60 : u2.cell? ⟨w6.heap.size + 1, 0, none⟩ = some (.int .u64 0) := j1.c _ (List.mem_cons_self ..)
                       have fj60 : u2.frozen? ⟨w6.heap.size + 1, 0, none⟩ = false := j1.f _ (List.mem_cons_self ..)
                       have j61 : u2.cell? ⟨w6.heap.size + 1, 1, none⟩ = some (.int .u64 0) := j1.c _ (List.mem_cons_of_mem _ (List.mem_cons_self ..))
                       have fj61 : u2.frozen? ⟨w6.heap.size + 1, 1, none⟩ = false := j1.f _ (List.mem_cons_of_mem _ (List.mem_cons_self ..))
                       have j70 : u2.cell? ⟨w6.heap.size, 0, none⟩ = some (.int .i64 0) := j1.c _ (List.mem_cons_of_mem _ (List.mem_cons_of_mem _ (List.mem_cons_self ..)))
                       have fj70 : u2.frozen? ⟨w6.heap.size, 0, none⟩ = false := j1.f _ (List.mem_cons_of_mem _ (List.mem_cons_of_mem _ (List.mem_cons_self ..)))
                       have j71 : u2.cell? ⟨w6.heap.size, 1, none⟩ = some (.slice none 0 0) := j1.c _ (List.mem_cons_of_mem _ (List.mem_cons_of_mem _ (List.mem_cons_of_mem _ (List.mem_cons_self ..))))
                       have fj71 : u2.frozen? ⟨w6.heap.size, 1, none⟩ = false := j1.f _ (List.mem_cons_of_mem _ (List.mem_cons_of_mem _ (List.mem_cons_of_mem _ (List.mem_cons_self ..))))
                       have j2 := j1.set2 (by intro x hx; simp only [List.mem_cons, List.not_mem_nil, or_false] at hx; rcases hx with rfl | rfl <;> exact n67) (.int .u64 (loN u : Nat)) (.int .u64 (hiN u : Nat))
                       have j80 : ((u2.setCell ⟨w6.heap.size + 1, 0, none⟩ (.int .u64 (loN u : Nat))).setCell ⟨w6.heap.size + 1, 1, none⟩ (.int .u64 (hiN u : Nat))).cell? ⟨w6.heap.size, 0, none⟩ = some (.int .i64 0) := j2.c _ (List.mem_cons_of_mem _ (List.mem_cons_of_mem _ (List.mem_cons_self ..)))
                       have fj80 : ((u2.setCell ⟨w6.heap.size + 1, 0, none⟩ (.int .u64 (loN u : Nat))).setCell ⟨w6.heap.size + 1, 1, none⟩ (.int .u64 (hiN u : Nat))).frozen? ⟨w6.heap.size, 0, none⟩ = false := j2.f _ (List.mem_cons_of_mem _ (List.mem_cons_of_mem _ (List.mem_cons_self ..)))
                       have j81 : ((u2.setCell ⟨w6.heap.size + 1, 0, none⟩ (.int .u64 (loN u : Nat))).setCell ⟨w6.heap.size + 1, 1, none⟩ (.int .u64 (hiN u : Nat))).cell? ⟨w6.heap.size, 1, none⟩ = some (.slice none 0 0) := j2.c _ (List.mem_cons_of_mem _ (List.mem_cons_of_mem _ (List.mem_cons_of_mem _ (List.mem_cons_self ..))))
                       have fj81 : ((u2.setCell ⟨w6.heap.size + 1, 0, none⟩ (.int .u64 (loN u : Nat))).setCell ⟨w6.heap.size + 1, 1, none⟩ (.int .u64 (hiN u : Nat))).frozen? ⟨w6.heap.size, 1, none⟩ = false := j2.f _ (List.mem_cons_of_mem _ (List.mem_cons_of_mem _ (List.mem_cons_of_mem _ (List.mem_cons_self ..))))
                       clear j1 j2)
                    | (have j1 : Cells [(w6.heap.size, 0, .int .u64 0), (w6.heap.size, 1, .int .u64 0), (u1.heap.size, 0, .int .i64 0), (u1.heap.size, 1, .slice none 0 0)] u2 := cells_app (E6_u1.out.below D2.out) (E7_u2.out)
                       have n67 : u1.heap.size ≠ w6.heap.size := (by first | omega | (have h := E6_u1.out.lt _ (List.mem_cons_self ..); dsimp only at h; omega) | (have h := E7_u1.out.lt _ (List.mem_cons_self ..); dsimp only at h; omega) | (have := B1.out.size; omega))
                       have n76 : w6.heap.size ≠ u1.heap.size := fun e => n67 e.symm
                       have j60 : u2.cell? ⟨w6.heap.size, 0, none⟩ = some (.int .u64 0) := j1.c _ (List.mem_cons_self ..)
                       have fj60 : u2.frozen? ⟨w6.heap.size, 0, none⟩ = false := j1.f _ (List.mem_cons_self ..)
                       have j61 : u2.cell? ⟨w6.heap.size, 1, none⟩ = some (.int .u64 0) := j1.c _ (List.mem_cons_of_mem _ (List.mem_cons_self ..))
                       have fj61 : u2.frozen? ⟨w6.heap.size, 1, none⟩ = false := j1.f _ (List.mem_cons_of_mem _ (List.mem_cons_self ..))
                       have j70 : u2.cell? ⟨u1.heap.size, 0, none⟩ = some (.int .i64 0) := j1.c _ (List.mem_cons_of_mem _ (List.mem_cons_of_mem _ (List.mem_cons_self ..)))
                       have fj70 : u2.frozen? ⟨u1.heap.size, 0, none⟩ = false := j1.f _ (List.mem_cons_of_mem _ (List.mem_cons_of_mem _ (List.mem_cons_self ..)))
                       have j71 : u2.cell? ⟨u1.heap.size, 1, none⟩ = some (.slice none 0 0) := j1.c _ (List.mem_cons_of_mem _ (List.mem_cons_of_mem _ (List.mem_cons_of_mem _ (List.mem_cons_self ..))))
                       have fj71 : u2.frozen? ⟨u1.heap.size, 1, none⟩ = false := j1.f _ (List.mem_cons_of_mem _ (List.mem_cons_of_mem _ (List.mem_cons_of_mem _ (List.mem_cons_self ..))))
                       have j2 := j1.set2 (by intro x hx; simp only [List.mem_cons, List.not_mem_nil, or_false] at hx; rcases hx with rfl | rfl <;> exact n67) (.int .u64 (loN u : Nat)) (.int .u64 (hiN u : Nat))
                       have j80 : ((u2.setCell ⟨w6.heap.size, 0, none⟩ (.int .u64 (loN u : Nat))).setCell ⟨w6.heap.size, 1, none⟩ (.int .u64 (hiN u : Nat))).cell? ⟨u1.heap.size, 0, none⟩ = some (.int .i64 0) := j2.c _ (List.mem_cons_of_mem _ (List.mem_cons_of_mem _ (List.mem_cons_self ..)))
                       have fj80 : ((u2.setCell ⟨w6.heap.size, 0, none⟩ (.int .u64 (loN u : Nat))).setCell ⟨w6.heap.size, 1, none⟩ (.int .u64 (hiN u : Nat))).frozen? ⟨u1.heap.size, 0, none⟩ = false := j2.f _ (List.mem_cons_of_mem _ (List.mem_cons_of_mem _ (List.mem_cons_self ..)))
                       have j81 : ((u2.setCell ⟨w6.heap.size, 0, none⟩ (.int .u64 (loN u : Nat))).setCell ⟨w6.heap.size, 1, none⟩ (.int .u64 (hiN u : Nat))).cell? ⟨u1.heap.size, 1, none⟩ = some (.slice none 0 0) := j2.c _ (List.mem_cons_of_mem _ (List.mem_cons_of_mem _ (List.mem_cons_of_mem _ (List.mem_cons_self ..))))
                       have fj81 : ((u2.setCell ⟨w6.heap.size, 0, none⟩ (.int .u64 (loN u : Nat))).setCell ⟨w6.heap.size, 1, none⟩ (.int .u64 (hiN u : Nat))).frozen? ⟨u1.heap.size, 1, none⟩ = false := j2.f _ (List.mem_cons_of_mem _ (List.mem_cons_of_mem _ (List.mem_cons_of_mem _ (List.mem_cons_self ..))))
                       clear j1 j2)
                    | (have j1 : Cells [(w6.heap.size, 0, .int .u64 0), (w6.heap.size, 1, .int .u64 0)] u2 := E6_u1.out.below D2.out
                       have l1 : w6.heap.size < u2.heap.size := j1.lt _ (List.mem_cons_self ..)
                       have n1x : w6.heap.size ≠ u2.heap.size := Nat.ne_of_lt l1
                       have n2x : u2.heap.size ≠ w6.heap.size := fun e => n1x e.symm
                       have j60 : u2.cell? ⟨w6.heap.size, 0, none⟩ = some (.int .u64 0) := j1.c _ (List.mem_cons_self ..)
                       have fj60 : u2.frozen? ⟨w6.heap.size, 0, none⟩ = false := j1.f _ (List.mem_cons_self ..)
                       have j61 : u2.cell? ⟨w6.heap.size, 1, none⟩ = some (.int .u64 0) := j1.c _ (List.mem_cons_of_mem _ (List.mem_cons_self ..))
                       have fj61 : u2.frozen? ⟨w6.heap.size, 1, none⟩ = false := j1.f _ (List.mem_cons_of_mem _ (List.mem_cons_self ..))
                       have jZ := j1.below ((Below.refl _ _).alloc (Nat.le_refl _) (.cells #[.int .i64 0, .slice none 0 0] 26))
                       have jZ0 : (u2.alloc (.cells #[.int .i64 0, .slice none 0 0] 26)).cell? ⟨w6.heap.size, 0, none⟩ = some (.int .u64 0) := jZ.c _ (List.mem_cons_self ..)
                       have fjZ0 : (u2.alloc (.cells #[.int .i64 0, .slice none 0 0] 26)).frozen? ⟨w6.heap.size, 0, none⟩ = false := jZ.f _ (List.mem_cons_self ..)
                       have jZ1 : (u2.alloc (.cells #[.int .i64 0, .slice none 0 0] 26)).cell? ⟨w6.heap.size, 1, none⟩ = some (.int .u64 0) := jZ.c _ (List.mem_cons_of_mem _ (List.mem_cons_self ..))
                       have fjZ1 : (u2.alloc (.cells #[.int .i64 0, .slice none 0 0] 26)).frozen? ⟨w6.heap.size, 1, none⟩ = false := jZ.f _ (List.mem_cons_of_mem _ (List.mem_cons_self ..))
                       have jF := j1.below ((Below.refl _ _).alloc (Nat.le_refl _) (.cells #[.int .i64 v, .slice none 0 0] 26))
                       have jF0 : (u2.alloc (.cells #[.int .i64 v, .slice none 0 0] 26)).cell? ⟨w6.heap.size, 0, none⟩ = some (.int .u64 0) := jF.c _ (List.mem_cons_self ..)
                       have fjF0 : (u2.alloc (.cells #[.int .i64 v, .slice none 0 0] 26)).frozen? ⟨w6.heap.size, 0, none⟩ = false := jF.f _ (List.mem_cons_self ..)
                       have jF1 : (u2.alloc (.cells #[.int .i64 v, .slice none 0 0] 26)).cell? ⟨w6.heap.size, 1, none⟩ = some (.int .u64 0) := jF.c _ (List.mem_cons_of_mem _ (List.mem_cons_self ..))
                       have fjF1 : (u2.alloc (.cells #[.int .i64 v, .slice none 0 0] 26)).frozen? ⟨w6.heap.size, 1, none⟩ = false := jF.f _ (List.mem_cons_of_mem _ (List.mem_cons_self ..))
                       clear j1 jZ jF)
                    | (have j1 : Cells [(u1.heap.size, 0, .int .u64 0), (u1.heap.size, 1, .int .u64 0), (w6.heap.size, 0, .int .i64 0), (w6.heap.size, 1, .slice none 0 0)] u2 := cells_app (E6_u2.out) (E7_u1.out.below D2.out)
                       have n67 : w6.heap.size ≠ u1.heap.size := (by first | omega | (have h := E6_u1.out.lt _ (List.mem_cons_self ..); dsimp only at h; omega) | (have h := E7_u1.out.lt _ (List.mem_cons_self ..); dsimp only at h; omega) | (have := B1.out.size; omega))
                       have n76 : u1.heap.size ≠ w6.heap.size := fun e => n67 e.symm
                       have j60 : u2.cell? ⟨u1.heap.size, 0, none⟩ = some (.int .u64 0) := j1.c _ (List.mem_cons_self ..)
                       have fj60 : u2.frozen? ⟨u1.heap.size, 0, none⟩ = false := j1.f _ (List.mem_cons_self ..)
                       have j61 : u2.cell? ⟨u1.heap.size, 1, none⟩ = some (.int .u64 0) := j1.c _ (List.mem_cons_of_mem _ (List.mem_cons_self ..))
                       have fj61 : u2.frozen? ⟨u1.heap.size, 1, none⟩ = false := j1.f _ (List.mem_cons_of_mem _ (List.mem_cons_self ..))
                       have j70 : u2.cell? ⟨w6.heap.size, 0, none⟩ = some (.int .i64 0) := j1.c _ (List.mem_cons_of_mem _ (List.mem_cons_of_mem _ (List.mem_cons_self ..)))
                       have fj70 : u2.frozen? ⟨w6.heap.size, 0, none⟩ = false := j1.f _ (List.mem_cons_of_mem _ (List.mem_cons_of_mem _ (List.mem_cons_self ..)))
                       have j71 : u2.cell? ⟨w6.heap.size, 1, none⟩ = some (.slice none 0 0) := j1.c _ (List.mem_cons_of_mem _ (List.mem_cons_of_mem _ (List.mem_cons_of_mem _ (List.mem_cons_self ..))))
                       have fj71 : u2.frozen? ⟨w6.heap.size, 1, none⟩ = false := j1.f _ (List.mem_cons_of_mem _ (List.mem_cons_of_mem _ (List.mem_cons_of_mem _ (List.mem_cons_self ..))))
                       have j2 := j1.set2 (by intro x hx; simp only [List.mem_cons, List.not_mem_nil, or_false] at hx; rcases hx with rfl | rfl <;> exact n67) (.int .u64 (loN u : Nat)) (.int .u64 (hiN u : Nat))
                       have j80 : ((u2.setCell ⟨u1.heap.size, 0, none⟩ (.int .u64 (loN u : Nat))).setCell ⟨u1.heap.size, 1, none⟩ (.int .u64 (hiN u : Nat))).cell? ⟨w6.heap.size, 0, none⟩ = some (.int .i64 0) := j2.c _ (List.mem_cons_of_mem _ (List.mem_cons_of_mem _ (List.mem_cons_self ..)))
                       have fj80 : ((u2.setCell ⟨u1.heap.size, 0, none⟩ (.int .u64 (loN u : Nat))).setCell ⟨u1.heap.size, 1, none⟩ (.int .u64 (hiN u : Nat))).frozen? ⟨w6.heap.size, 0, none⟩ = false := j2.f _ (List.mem_cons_of_mem _ (List.mem_cons_of_mem _ (List.mem_cons_self ..)))
                       have j81 : ((u2.setCell ⟨u1.heap.size, 0, none⟩ (.int .u64 (loN u : Nat))).setCell ⟨u1.heap.size, 1, none⟩ (.int .u64 (hiN u : Nat))).cell? ⟨w6.heap.size, 1, none⟩ = some (.slice none 0 0) := j2.c _ (List.mem_cons_of_mem _ (List.mem_cons_of_mem _ (List.mem_cons_of_mem _ (List.mem_cons_self ..))))
                       have fj81 : ((u2.setCell ⟨u1.heap.size, 0, none⟩ (.int .u64 (loN u : Nat))).setCell ⟨u1.heap.size, 1, none⟩ (.int .u64 (hiN u : Nat))).frozen? ⟨w6.heap.size, 1, none⟩ = false := j2.f _ (List.mem_cons_of_mem _ (List.mem_cons_of_mem _ (List.mem_cons_of_mem _ (List.mem_cons_self ..))))
                       clear j1 j2)
                    | (have j1 : Cells [(u1.heap.size, 0, .int .u64 0), (u1.heap.size, 1, .int .u64 0), (u1.heap.size + 1, 0, .int .i64 0), (u1.heap.size + 1, 1, .slice none 0 0)] u2 := cells_app (E6_u2.out) (E7_u2.out)
                       have n67 : u1.heap.size + 1 ≠ u1.heap.size := (by first | omega | (have h := E6_u1.out.lt _ (List.mem_cons_self ..); dsimp only at h; omega) | (have h := E7_u1.out.lt _ (List.mem_cons_self ..); dsimp only at h; omega) | (have := B1.out.size; omega))
                       have n76 : u1.heap.size ≠ u1.heap.size + 1 := fun e => n67 e.symm
                       have j60 : u2.cell? ⟨u1.heap.size, 0, none⟩ = some (.int .u64 0) := j1.c _ (List.mem_cons_self ..)
                       have fj60 : u2.frozen? ⟨u1.heap.size, 0, none⟩ = false := j1.f _ (List.mem_cons_self ..)
                       have j61 : u2.cell? ⟨u1.heap.size, 1, none⟩ = some (.int .u64 0) := j1.c _ (List.mem_cons_of_mem _ (List.mem_cons_self ..))
                       have fj61 : u2.frozen? ⟨u1.heap.size, 1, none⟩ = false := j1.f _ (List.mem_cons_of_mem _ (List.mem_cons_self ..))
                       have j70 : u2.cell? ⟨u1.heap.size + 1, 0, none⟩ = some (.int .i64 0) := j1.c _ (List.mem_cons_of_mem _ (List.mem_cons_of_mem _ (List.mem_cons_self ..)))
                       have fj70 : u2.frozen? ⟨u1.heap.size + 1, 0, none⟩ = false := j1.f _ (List.mem_cons_of_mem _ (List.mem_cons_of_mem _ (List.mem_cons_self ..)))
                       have j71 : u2.cell? ⟨u1.heap.size + 1, 1, none⟩ = some (.slice none 0 0) := j1.c _ (List.mem_cons_of_mem _ (List.mem_cons_of_mem _ (List.mem_cons_of_mem _ (List.mem_cons_self ..))))
                       have fj71 : u2.frozen? ⟨u1.heap.size + 1, 1, none⟩ = false := j1.f _ (List.mem_cons_of_mem _ (List.mem_cons_of_mem _ (List.mem_cons_of_mem _ (List.mem_cons_self ..))))
                       have j2 := j1.set2 (by intro x hx; simp only [List.mem_cons, List.not_mem_nil, or_false] at hx; rcases hx with rfl | rfl <;> exact n67) (.int .u64 (loN u : Nat)) (.int .u64 (hiN u : Nat))
                       have j80 : ((u2.setCell ⟨u1.heap.size, 0, none⟩ (.int .u64 (loN u : Nat))).setCell ⟨u1.heap.size, 1, none⟩ (.int .u64 (hiN u : Nat))).cell? ⟨u1.heap.size + 1, 0, none⟩ = some (.int .i64 0) := j2.c _ (List.mem_cons_of_mem _ (List.mem_cons_of_mem _ (List.mem_cons_self ..)))
                       have fj80 : ((u2.setCell ⟨u1.heap.size, 0, none⟩ (.int .u64 (loN u : Nat))).setCell ⟨u1.heap.size, 1, none⟩ (.int .u64 (hiN u : Nat))).frozen? ⟨u1.heap.size + 1, 0, none⟩ = false := j2.f _ (List.mem_cons_of_mem _ (List.mem_cons_of_mem _ (List.mem_cons_self ..)))
                       have j81 : ((u2.setCell ⟨u1.heap.size, 0, none⟩ (.int .u64 (loN u : Nat))).setCell ⟨u1.heap.size, 1, none⟩ (.int .u64 (hiN u : Nat))).cell? ⟨u1.heap.size + 1, 1, none⟩ = some (.slice none 0 0) := j2.c _ (List.mem_cons_of_mem _ (List.mem_cons_of_mem _ (List.mem_cons_of_mem _ (List.mem_cons_self ..))))
                       have fj81 : ((u2.setCell ⟨u1.heap.size, 0, none⟩ (.int .u64 (loN u : Nat))).setCell ⟨u1.heap.size, 1, none⟩ (.int .u64 (hiN u : Nat))).frozen? ⟨u1.heap.size + 1, 1, none⟩ = false := j2.f _ (List.mem_cons_of_mem _ (List.mem_cons_of_mem _ (List.mem_cons_of_mem _ (List.mem_cons_self ..))))
                       clear j1 j2)
                    | (have j1 : Cells [(u1.heap.size + 1, 0, .int .u64 0), (u1.heap.size + 1, 1, .int .u64 0), (u1.heap.size, 0, .int .i64 0), (u1.heap.size, 1, .slice none 0 0)] u2 := cells_app (E6_u2.out) (E7_u2.out)
                       have n67 : u1.heap.size ≠ u1.heap.size + 1 := (by first | omega | (have h := E6_u1.out.lt _ (List.mem_cons_self ..); dsimp only at h; omega) | (have h := E7_u1.out.lt _ (List.mem_cons_self ..); dsimp only at h; omega) | (have := B1.out.size; omega))
                       have n76 : u1.heap.size + 1 ≠ u1.heap.size := fun e => n67 e.symm
                       have j60 : u2.cell? ⟨u1.heap.size + 1, 0, none⟩ = some (.int .u64 0) := j1.c _ (List.mem_cons_self ..)
                       have fj60 : u2.frozen? ⟨u1.heap.size + 1, 0, none⟩ = false := j1.f _ (List.mem_cons_self ..)
                       have j61 : u2.cell? ⟨u1.heap.size + 1, 1, none⟩ = some (.int .u64 0) := j1.c _ (List.mem_cons_of_mem _ (List.mem_cons_self ..))
                       have fj61 : u2.frozen? ⟨u1.heap.size + 1, 1, none⟩ = false := j1.f _ (List.mem_cons_of_mem _ (List.mem_cons_self ..))
                       have j70 : u2.cell? ⟨u1.heap.size, 0, none⟩ = some (.int .i64 0) := j1.c _ (List.mem_cons_of_mem _ (List.mem_cons_of_mem _ (List.mem_cons_self ..)))
                       have fj70 : u2.frozen? ⟨u1.heap.size, 0, none⟩ = false := j1.f _ (List.mem_cons_of_mem _ (List.mem_cons_of_mem _ (List.mem_cons_self ..)))
                       have j71 : u2.cell? ⟨u1.heap.size, 1, none⟩ = some (.slice none 0 0) := j1.c _ (List.mem_cons_of_mem _ (List.mem_cons_of_mem _ (List.mem_cons_of_mem _ (List.mem_cons_self ..))))
                       have fj71 : u2.frozen? ⟨u1.heap.size, 1, none⟩ = false := j1.f _ (List.mem_cons_of_mem _ (List.mem_cons_of_mem _ (List.mem_cons_of_mem _ (List.mem_cons_self ..))))
                       have j2 := j1.set2 (by intro x hx; simp only [List.mem_cons, List.not_mem_nil, or_false] at hx; rcases hx with rfl | rfl <;> exact n67) (.int .u64 (loN u : Nat)) (.int .u64 (hiN u : Nat))
                       have j80 : ((u2.setCell ⟨u1.heap.size + 1, 0, none⟩ (.int .u64 (loN u : Nat))).setCell ⟨u1.heap.size + 1, 1, none⟩ (.int .u64 (hiN u : Nat))).cell? ⟨u1.heap.size, 0, none⟩ = some (.int .i64 0) := j2.c _ (List.mem_cons_of_mem _ (List.mem_cons_of_mem _ (List.mem_cons_self ..)))
                       have fj80 : ((u2.setCell ⟨u1.heap.size + 1, 0, none⟩ (.int .u64 (loN u : Nat))).setCell ⟨u1.heap.size + 1, 1, none⟩ (.int .u64 (hiN u : Nat))).frozen? ⟨u1.heap.size, 0, none⟩ = false := j2.f _ (List.mem_cons_of_mem _ (List.mem_cons_of_mem _ (List.mem_cons_self ..)))
                       have j81 : ((u2.setCell ⟨u1.heap.size + 1, 0, none⟩ (.int .u64 (loN u : Nat))).setCell ⟨u1.heap.size + 1, 1, none⟩ (.int .u64 (hiN u : Nat))).cell? ⟨u1.heap.size, 1, none⟩ = some (.slice none 0 0) := j2.c _ (List.mem_cons_of_mem _ (List.mem_cons_of_mem _ (List.mem_cons_of_mem _ (List.mem_cons_self ..))))
                       have fj81 : ((u2.setCell ⟨u1.heap.size + 1, 0, none⟩ (.int .u64 (loN u : Nat))).setCell ⟨u1.heap.size + 1, 1, none⟩ (.int .u64 (hiN u : Nat))).frozen? ⟨u1.heap.size, 1, none⟩ = false := j2.f _ (List.mem_cons_of_mem _ (List.mem_cons_of_mem _ (List.mem_cons_of_mem _ (List.mem_cons_self ..))))
                       clear j1 j2)
                    | (have j1 : Cells [(u1.heap.size, 0, .int .u64 0), (u1.heap.size, 1, .int .u64 0)] u2 := E6_u2.out
                       have l1 : u1.heap.size < u2.heap.size := j1.lt _ (List.mem_cons_self ..)
                       have n1x : u1.heap.size ≠ u2.heap.size := Nat.ne_of_lt l1
                       have n2x : u2.heap.size ≠ u1.heap.size := fun e => n1x e.symm
                       have j60 : u2.cell? ⟨u1.heap.size, 0, none⟩ = some (.int .u64 0) := j1.c _ (List.mem_cons_self ..)
                       have fj60 : u2.frozen? ⟨u1.heap.size, 0, none⟩ = false := j1.f _ (List.mem_cons_self ..)
                       have j61 : u2.cell? ⟨u1.heap.size, 1, none⟩ = some (.int .u64 0) := j1.c _ (List.mem_cons_of_mem _ (List.mem_cons_self ..))
                       have fj61 : u2.frozen? ⟨u1.heap.size, 1, none⟩ = false := j1.f _ (List.mem_cons_of_mem _ (List.mem_cons_self ..))
                       have jZ := j1.below ((Below.refl _ _).alloc (Nat.le_refl _) (.cells #[.int .i64 0, .slice none 0 0] 26))
                       have jZ0 : (u2.alloc (.cells #[.int .i64 0, .slice none 0 0] 26)).cell? ⟨u1.heap.size, 0, none⟩ = some (.int .u64 0) := jZ.c _ (List.mem_cons_self ..)
                       have fjZ0 : (u2.alloc (.cells #[.int .i64 0, .slice none 0 0] 26)).frozen? ⟨u1.heap.size, 0, none⟩ = false := jZ.f _ (List.mem_cons_self ..)
                       have jZ1 : (u2.alloc (.cells #[.int .i64 0, .slice none 0 0] 26)).cell? ⟨u1.heap.size, 1, none⟩ = some (.int .u64 0) := jZ.c _ (List.mem_cons_of_mem _ (List.mem_cons_self ..))
                       have fjZ1 : (u2.alloc (.cells #[.int .i64 0, .slice none 0 0] 26)).frozen? ⟨u1.heap.size, 1, none⟩ = false := jZ.f _ (List.mem_cons_of_mem _ (List.mem_cons_self ..))
                       have jF := j1.below ((Below.refl _ _).alloc (Nat.le_refl _) (.cells #[.int .i64 v, .slice none 0 0] 26))
                       have jF0 : (u2.alloc (.cells #[.int .i64 v, .slice none 0 0] 26)).cell? ⟨u1.heap.size, 0, none⟩ = some (.int .u64 0) := jF.c _ (List.mem_cons_self ..)
                       have fjF0 : (u2.alloc (.cells #[.int .i64 v, .slice none 0 0] 26)).frozen? ⟨u1.heap.size, 0, none⟩ = false := jF.f _ (List.mem_cons_self ..)
                       have jF1 : (u2.alloc (.cells #[.int .i64 v, .slice none 0 0] 26)).cell? ⟨u1.heap.size, 1, none⟩ = some (.int .u64 0) := jF.c _ (List.mem_cons_of_mem _ (List.mem_cons_self ..))
                       have fjF1 : (u2.alloc (.cells #[.int .i64 v, .slice none 0 0] 26)).frozen? ⟨u1.heap.size, 1, none⟩ = false := jF.f _ (List.mem_cons_of_mem _ (List.mem_cons_self ..))
                       clear j1 jZ jF)
                    | (have j1 : Cells [(w6.heap.size, 0, .int .i64 0), (w6.heap.size, 1, .slice none 0 0)] u2 := E7_u1.out.below D2.out
                       have l1 : w6.heap.size < u2.heap.size := j1.lt _ (List.mem_cons_self ..)
                       have n1x : w6.heap.size ≠ u2.heap.size := Nat.ne_of_lt l1
                       have n2x : u2.heap.size ≠ w6.heap.size := fun e => n1x e.symm
                       have j60 : u2.cell? ⟨w6.heap.size, 0, none⟩ = some (.int .i64 0) := j1.c _ (List.mem_cons_self ..)
                       have fj60 : u2.frozen? ⟨w6.heap.size, 0, none⟩ = false := j1.f _ (List.mem_cons_self ..)
                       have j61 : u2.cell? ⟨w6.heap.size, 1, none⟩ = some (.slice none 0 0) := j1.c _ (List.mem_cons_of_mem _ (List.mem_cons_self ..))
                       have fj61 : u2.frozen? ⟨w6.heap.size, 1, none⟩ = false := j1.f _ (List.mem_cons_of_mem _ (List.mem_cons_self ..))
                       have jZ := j1.below ((Below.refl _ _).alloc (Nat.le_refl _) (.cells #[.int .u64 0, .int .u64 0] 104))
                       have jZ0 : (u2.alloc (.cells #[.int .u64 0, .int .u64 0] 104)).cell? ⟨w6.heap.size, 0, none⟩ = some (.int .i64 0) := jZ.c _ (List.mem_cons_self ..)
                       have fjZ0 : (u2.alloc (.cells #[.int .u64 0, .int .u64 0] 104)).frozen? ⟨w6.heap.size, 0, none⟩ = false := jZ.f _ (List.mem_cons_self ..)
                       have jZ1 : (u2.alloc (.cells #[.int .u64 0, .int .u64 0] 104)).cell? ⟨w6.heap.size, 1, none⟩ = some (.slice none 0 0) := jZ.c _ (List.mem_cons_of_mem _ (List.mem_cons_self ..))
                       have fjZ1 : (u2.alloc (.cells #[.int .u64 0, .int .u64 0] 104)).frozen? ⟨w6.heap.size, 1, none⟩ = false := jZ.f _ (List.mem_cons_of_mem _ (List.mem_cons_self ..))
                       have jF := j1.below ((Below.refl _ _).alloc (Nat.le_refl _) (.cells #[.int .u64 (loN u : Nat), .int .u64 (hiN u : Nat)] 104))
                       have jF0 : (u2.alloc (.cells #[.int .u64 (loN u : Nat), .int .u64 (hiN u : Nat)] 104)).cell? ⟨w6.heap.size, 0, none⟩ = some (.int .i64 0) := jF.c _ (List.mem_cons_self ..)
                       have fjF0 : (u2.alloc (.cells #[.int .u64 (loN u : Nat), .int .u64 (hiN u : Nat)] 104)).frozen? ⟨w6.heap.size, 0, none⟩ = false := jF.f _ (List.mem_cons_self ..)
                       have jF1 : (u2.alloc (.cells #[.int .u64 (loN u : Nat), .int .u64 (hiN u : Nat)] 104)).cell? ⟨w6.heap.size, 1, none⟩ = some (.slice none 0 0) := jF.c _ (List.mem_cons_of_mem _ (List.mem_cons_self ..))
                       have fjF1 : (u2.alloc (.cells #[.int .u64 (loN u : Nat), .int .u64 (hiN u : Nat)] 104)).frozen? ⟨w6.heap.size, 1, none⟩ = false := jF.f _ (List.mem_cons_of_mem _ (List.mem_cons_self ..))
                       clear j1 jZ jF)
                    | (have j1 : Cells [(u1.heap.size, 0, .int .i64 0), (u1.heap.size, 1, .slice none 0 0)] u2 := E7_u2.out
                       have l1 : u1.heap.size < u2.heap.size := j1.lt _ (List.mem_cons_self ..)
                       have n1x : u1.heap.size ≠ u2.heap.size := Nat.ne_of_lt l1
                       have n2x : u2.heap.size ≠ u1.heap.size := fun e => n1x e.symm
                       have j60 : u2.cell? ⟨u1.heap.size, 0, none⟩ = some (.int .i64 0) := j1.c _ (List.mem_cons_self ..)
                       have fj60 : u2.frozen? ⟨u1.heap.size, 0, none⟩ = false := j1.f _ (List.mem_cons_self ..)
                       have j61 : u2.cell? ⟨u1.heap.size, 1, none⟩ = some (.slice none 0 0) := j1.c _ (List.mem_cons_of_mem _ (List.mem_cons_self ..))
                       have fj61 : u2.frozen? ⟨u1.heap.size, 1, none⟩ = false := j1.f _ (List.mem_cons_of_mem _ (List.mem_cons_self ..))
                       have jZ := j1.below ((Below.refl _ _).alloc (Nat.le_refl _) (.cells #[.int .u64 0, .int .u64 0] 104))
                       have jZ0 : (u2.alloc (.cells #[.int .u64 0, .int .u64 0] 104)).cell? ⟨u1.heap.size, 0, none⟩ = some (.int .i64 0) := jZ.c _ (List.mem_cons_self ..)
                       have fjZ0 : (u2.alloc (.cells #[.int .u64 0, .int .u64 0] 104)).frozen? ⟨u1.heap.size, 0, none⟩ = false := jZ.f _ (List.mem_cons_self ..)
                       have jZ1 : (u2.alloc (.cells #[.int .u64 0, .int .u64 0] 104)).cell? ⟨u1.heap.size, 1, none⟩ = some (.slice none 0 0) := jZ.c _ (List.mem_cons_of_mem _ (List.mem_cons_self ..))
                       have fjZ1 : (u2.alloc (.cells #[.int .u64 0, .int .u64 0] 104)).frozen? ⟨u1.heap.size, 1, none⟩ = false := jZ.f _ (List.mem_cons_of_mem _ (List.mem_cons_self ..))
                       have jF := j1.below ((Below.refl _ _).alloc (Nat.le_refl _) (.cells #[.int .u64 (loN u : Nat), .int .u64 (hiN u : Nat)] 104))
                       have jF0 : (u2.alloc (.cells #[.int .u64 (loN u : Nat), .int .u64 (hiN u : Nat)] 104)).cell? ⟨u1.heap.size, 0, none⟩ = some (.int .i64 0) := jF.c _ (List.mem_cons_self ..)
                       have fjF0 : (u2.alloc (.cells #[.int .u64 (loN u : Nat), .int .u64 (hiN u : Nat)] 104)).frozen? ⟨u1.heap.size, 0, none⟩ = false := jF.f _ (List.mem_cons_self ..)
                       have jF1 : (u2.alloc (.cells #[.int .u64 (loN u : Nat), .int .u64 (hiN u : Nat)] 104)).cell? ⟨u1.heap.size, 1, none⟩ = some (.slice none 0 0) := jF.c _ (List.mem_cons_of_mem _ (List.mem_cons_self ..))
                       have fjF1 : (u2.alloc (.cells #[.int .u64 (loN u : Nat), .int .u64 (hiN u : Nat)] 104)).frozen? ⟨u1.heap.size, 1, none⟩ = false := jF.f _ (List.mem_cons_of_mem _ (List.mem_cons_self ..))
                       clear j1 jZ jF)
                    | skip
                 rw [wV_eq]
                 clear hb2))
          all_goals
            first
              | (obtain ⟨W, hW⟩ : ∃ W, W = ((((u2.setCell ⟨w6.heap.size, 0, none⟩ (.int .u64 (loN u : Nat))).setCell ⟨w6.heap.size, 1, none⟩ (.int .u64 (hiN u : Nat))).setCell ⟨w6.heap.size + 1, 0, none⟩ (.int .i64 v)).setCell ⟨w6.heap.size + 1, 1, none⟩ (.slice none 0 0)) := ⟨_, rfl⟩
                 rw [← hW]
                 have c0 : Cells [] u2 := Cells.nil
                 have c1 : Cells [(w6.heap.size, 0, .int .u64 0), (w6.heap.size, 1, .int .u64 0), (w6.heap.size + 1, 0, .int .i64 0), (w6.heap.size + 1, 1, .slice none 0 0)] u2 := cells_app (E6_u1.out.below D2.out) (E7_u1.out.below D2.out)
                 have n67 : w6.heap.size + 1 ≠ w6.heap.size := (by first | omega | (have h := E6_u1.out.lt _ (List.mem_cons_self ..); dsimp only at h; omega) | (have h := E7_u1.out.lt _ (List.mem_cons_self ..); dsimp only at h; omega) | (have := B1.out.size; omega))
                 have c2 := c1.set2 (by intro x hx; simp only [List.mem_cons, List.not_mem_nil, or_false] at hx; rcases hx with rfl | rfl <;> exact n67) (.int .u64 (loN u : Nat)) (.int .u64 (hiN u : Nat))
                 have c3 := cells_swap c2
                 have CW := c3.set2 (by intro x hx; simp only [List.mem_cons, List.not_mem_nil, or_false] at hx; rcases hx with rfl | rfl <;> exact fun e => n67 e.symm) (.int .i64 v) (.slice none 0 0)
                 have CW := cells_swap CW
                 have CW : Hid (Cells [(w6.heap.size, 0, (.int .u64 (loN u : Nat))), (w6.heap.size, 1, (.int .u64 (hiN u : Nat))), (w6.heap.size + 1, 0, (.int .i64 v)), (w6.heap.size + 1, 1, (.slice none 0 0))] W) := Lib.hid (by rw [hW]; exact CW)
                 have BW : Hid (Below w6.heap.size w6 W) := Lib.hid (by rw [hW]; exact (by first | exact Bd.out | exact below_dr (below_al (Below.refl _ _) _) | exact below_dr (below_al (below_al (Below.refl _ _) _) _) | exact B1.out | exact below_al B1.out _ | exact below_al (below_al B1.out _) _ | exact B2.out | exact below_al B2.out _ | exact below_al (below_al B2.out _) _ | exact below_set2 B2.out (by first | exact Nat.le_refl _ | exact Nat.le_succ _ | exact B1.out.size | exact Nat.le_succ_of_le B1.out.size) _ _ | exact below_set2 (below_set2 B2.out (by first | exact Nat.le_refl _ | exact Nat.le_succ _ | exact B1.out.size | exact Nat.le_succ_of_le B1.out.size) _ _) (by first | exact Nat.le_refl _ | exact Nat.le_succ _ | exact B1.out.size | exact Nat.le_succ_of_le B1.out.size) _ _ | exact below_al (below_set2 B2.out (by first | exact Nat.le_refl _ | exact Nat.le_succ _ | exact B1.out.size | exact Nat.le_succ_of_le B1.out.size) _ _) _))
                 have QL : Hid (N6 ≤ w6.heap.size ∧ N6 ≤ w6.heap.size + 1 ∧ w6.heap.size ≠ w6.heap.size + 1) := Lib.hid (by
                   have := HN6.out
                   have := B1.out.size
                   have := B2.out.size
                   have := D2.out.size
                   first
                     | omega
                     | (have h := E6_u1.out.lt _ (List.mem_cons_self ..); dsimp only at h; omega)
                     | (have h := E7_u1.out.lt _ (List.mem_cons_self ..); dsimp only at h; omega)
                     | (have h := E6_u2.out.lt _ (List.mem_cons_self ..); dsimp only at h; omega)
                     | (have h := E7_u2.out.lt _ (List.mem_cons_self ..); dsimp only at h; omega))
                 obtain ⟨q6, hq6⟩ : ∃ q, q = w6.heap.size := ⟨_, rfl⟩
                 obtain ⟨q7, hq7⟩ : ∃ q, q = w6.heap.size + 1 := ⟨_, rfl⟩
                 rw [← hq7, ← hq6] at CW QL
                 rw [← hq7, ← hq6]
                 clear hq6 hq7 hW)
              | (obtain ⟨W, hW⟩ : ∃ W, W = ((((u2.setCell ⟨w6.heap.size + 1, 0, none⟩ (.int .u64 (loN u : Nat))).setCell ⟨w6.heap.size + 1, 1, none⟩ (.int .u64 (hiN u : Nat))).setCell ⟨w6.heap.size, 0, none⟩ (.int .i64 v)).setCell ⟨w6.heap.size, 1, none⟩ (.slice none 0 0)) := ⟨_, rfl⟩
                 rw [← hW]
                 have c0 : Cells [] u2 := Cells.nil
                 have c1 : Cells [(w6.heap.size + 1, 0, .int .u64 0), (w6.heap.size + 1, 1, .int .u64 0), (w6.heap.size, 0, .int .i64 0), (w6.heap.size, 1, .slice none 0 0)] u2 := cells_app (E6_u1.out.below D2.out) (E7_u1.out.below D2.out)
                 have n67 : w6.heap.size ≠ w6.heap.size + 1 := (by first | omega | (have h := E6_u1.out.lt _ (List.mem_cons_self ..); dsimp only at h; omega) | (have h := E7_u1.out.lt _ (List.mem_cons_self ..); dsimp only at h; omega) | (have := B1.out.size; omega))
                 have c2 := c1.set2 (by intro x hx; simp only [List.mem_cons, List.not_mem_nil, or_false] at hx; rcases hx with rfl | rfl <;> exact n67) (.int .u64 (loN u : Nat)) (.int .u64 (hiN u : Nat))
                 have c3 := cells_swap c2
                 have CW := c3.set2 (by intro x hx; simp only [List.mem_cons, List.not_mem_nil, or_false] at hx; rcases hx with rfl | rfl <;> exact fun e => n67 e.symm) (.int .i64 v) (.slice none 0 0)
                 have CW := cells_swap CW
                 have CW : Hid (Cells [(w6.heap.size + 1, 0, (.int .u64 (loN u : Nat))), (w6.heap.size + 1, 1, (.int .u64 (hiN u : Nat))), (w6.heap.size, 0, (.int .i64 v)), (w6.heap.size, 1, (.slice none 0 0))] W) := Lib.hid (by rw [hW]; exact CW)
                 have BW : Hid (Below w6.heap.size w6 W) := Lib.hid (by rw [hW]; exact (by first | exact Bd.out | exact below_dr (below_al (Below.refl _ _) _) | exact below_dr (below_al (below_al (Below.refl _ _) _) _) | exact B1.out | exact below_al B1.out _ | exact below_al (below_al B1.out _) _ | exact B2.out | exact below_al B2.out _ | exact below_al (below_al B2.out _) _ | exact below_set2 B2.out (by first | exact Nat.le_refl _ | exact Nat.le_succ _ | exact B1.out.size | exact Nat.le_succ_of_le B1.out.size) _ _ | exact below_set2 (below_set2 B2.out (by first | exact Nat.le_refl _ | exact Nat.le_succ _ | exact B1.out.size | exact Nat.le_succ_of_le B1.out.size) _ _) (by first | exact Nat.le_refl _ | exact Nat.le_succ _ | exact B1.out.size | exact Nat.le_succ_of_le B1.out.size) _ _ | exact below_al (below_set2 B2.out (by first | exact Nat.le_refl _ | exact Nat.le_succ _ | exact B1.out.size | exact Nat.le_succ_of_le B1.out.size) _ _) _))
                 have QL : Hid (N6 ≤ w6.heap.size + 1 ∧ N6 ≤ w6.heap.size ∧ w6.heap.size + 1 ≠ w6.heap.size) := Lib.hid (by
                   have := HN6.out
                   have := B1.out.size
                   have := B2.out.size
                   have := D2.out.size
                   first
                     | omega
                     | (have h := E6_u1.out.lt _ (List.mem_cons_self ..); dsimp only at h; omega)
                     | (have h := E7_u1.out.lt _ (List.mem_cons_self ..); dsimp only at h; omega)
                     | (have h := E6_u2.out.lt _ (List.mem_cons_self ..); dsimp only at h; omega)
                     | (have h := E7_u2.out.lt _ (List.mem_cons_self ..); dsimp only at h; omega))
                 obtain ⟨q6, hq6⟩ : ∃ q, q = w6.heap.size + 1 := ⟨_, rfl⟩
                 obtain ⟨q7, hq7⟩ : ∃ q, q = w6.heap.size := ⟨_, rfl⟩
                 rw [← hq6, ← hq7] at CW QL
                 rw [← hq6, ← hq7]
                 clear hq6 hq7 hW)
              | (obtain ⟨W, hW⟩ : ∃ W, W = ((((u2.setCell ⟨w6.heap.size, 0, none⟩ (.int .u64 (loN u : Nat))).setCell ⟨w6.heap.size, 1, none⟩ (.int .u64 (hiN u : Nat))).setCell ⟨u1.heap.size, 0, none⟩ (.int .i64 v)).setCell ⟨u1.heap.size, 1, none⟩ (.slice none 0 0)) := ⟨_, rfl⟩
                 rw [← hW]
                 have c0 : Cells [] u2 := Cells.nil
                 have c1 : Cells [(w6.heap.size, 0, .int .u64 0), (w6.heap.size, 1, .int .u64 0), (u1.heap.size, 0, .int .i64 0), (u1.heap.size, 1, .slice none 0 0)] u2 := cells_app (E6_u1.out.below D2.out) (E7_u2.out)
                 have n67 : u1.heap.size ≠ w6.heap.size := (by first | omega | (have h := E6_u1.out.lt _ (List.mem_cons_self ..); dsimp only at h; omega) | (have h := E7_u1.out.lt _ (List.mem_cons_self ..); dsimp only at h; omega) | (have := B1.out.size; omega))
                 have c2 := c1.set2 (by intro x hx; simp only [List.mem_cons, List.not_mem_nil, or_false] at hx; rcases hx with rfl | rfl <;> exact n67) (.int .u64 (loN u : Nat)) (.int .u64 (hiN u : Nat))
                 have c3 := cells_swap c2
                 have CW := c3.set2 (by intro x hx; simp only [List.mem_cons, List.not_mem_nil, or_false] at hx; rcases hx with rfl | rfl <;> exact fun e => n67 e.symm) (.int .i64 v) (.slice none 0 0)
                 have CW := cells_swap CW
                 have CW : Hid (Cells [(w6.heap.size, 0, (.int .u64 (loN u : Nat))), (w6.heap.size, 1, (.int .u64 (hiN u : Nat))), (u1.heap.size, 0, (.int .i64 v)), (u1.heap.size, 1, (.slice none 0 0))] W) := Lib.hid (by rw [hW]; exact CW)
                 have BW : Hid (Below w6.heap.size w6 W) := Lib.hid (by rw [hW]; exact (by first | exact Bd.out | exact below_dr (below_al (Below.refl _ _) _) | exact below_dr (below_al (below_al (Below.refl _ _) _) _) | exact B1.out | exact below_al B1.out _ | exact below_al (below_al B1.out _) _ | exact B2.out | exact below_al B2.out _ | exact below_al (below_al B2.out _) _ | exact below_set2 B2.out (by first | exact Nat.le_refl _ | exact Nat.le_succ _ | exact B1.out.size | exact Nat.le_succ_of_le B1.out.size) _ _ | exact below_set2 (below_set2 B2.out (by first | exact Nat.le_refl _ | exact Nat.le_succ _ | exact B1.out.size | exact Nat.le_succ_of_le B1.out.size) _ _) (by first | exact Nat.le_refl _ | exact Nat.le_succ _ | exact B1.out.size | exact Nat.le_succ_of_le B1.out.size) _ _ | exact below_al (below_set2 B2.out (by first | exact Nat.le_refl _ | exact Nat.le_succ _ | exact B1.out.size | exact Nat.le_succ_of_le B1.out.size) _ _) _))
                 have QL : Hid (N6 ≤ w6.heap.size ∧ N6 ≤ u1.heap.size ∧ w6.heap.size ≠ u1.heap.size) := Lib.hid (by
                   have := HN6.out
                   have := B1.out.size
                   have := B2.out.size
                   have := D2.out.size
                   first
                     | omega
                     | (have h := E6_u1.out.lt _ (List.mem_cons_self ..); dsimp only at h; omega)
                     | (have h := E7_u1.out.lt _ (List.mem_cons_self ..); dsimp only at h; omega)
                     | (have h := E6_u2.out.lt _ (List.mem_cons_self ..); dsimp only at h; omega)
                     | (have h := E7_u2.out.lt _ (List.mem_cons_self ..); dsimp only at h; omega))
                 obtain ⟨q6, hq6⟩ : ∃ q, q = w6.heap.size := ⟨_, rfl⟩
                 obtain ⟨q7, hq7⟩ : ∃ q, q = u1.heap.size := ⟨_, rfl⟩
                 rw [← hq6, ← hq7] at CW QL
                 rw [← hq6, ← hq7]
                 clear hq6 hq7 hW)
              | (obtain ⟨W, hW⟩ : ∃ W, W = (((u2.setCell ⟨w6.heap.size, 0, none⟩ (.int .u64 (loN u : Nat))).setCell ⟨w6.heap.size, 1, none⟩ (.int .u64 (hiN u : Nat))).alloc (.cells #[.int .i64 v, .slice none 0 0] 26)) := ⟨_, rfl⟩
                 rw [← hW]
                 have c0 : Cells [] u2 := Cells.nil
                 have c1 : Cells [(w6.heap.size, 0, .int .u64 0), (w6.heap.size, 1, .int .u64 0)] u2 := E6_u1.out.below D2.out
                 have c2 := c1.set2 (by intro x hx; cases hx) (.int .u64 (loN u : Nat)) (.int .u64 (hiN u : Nat))
                 have c3 := c2.alloc2 (.int .i64 v) (.slice none 0 0) 26 (b := u2.heap.size) (by simp [World.setCell])
                 have CW := cells_swap c3
                 have CW : Hid (Cells [(w6.heap.size, 0, (.int .u64 (loN u : Nat))), (w6.heap.size, 1, (.int .u64 (hiN u : Nat))), (u2.heap.size, 0, (.int .i64 v)), (u2.heap.size, 1, (.slice none 0 0))] W) := Lib.hid (by rw [hW]; exact CW)
                 have BW : Hid (Below w6.heap.size w6 W) := Lib.hid (by rw [hW]; exact (by first | exact Bd.out | exact below_dr (below_al (Below.refl _ _) _) | exact below_dr (below_al (below_al (Below.refl _ _) _) _) | exact B1.out | exact below_al B1.out _ | exact below_al (below_al B1.out _) _ | exact B2.out | exact below_al B2.out _ | exact below_al (below_al B2.out _) _ | exact below_set2 B2.out (by first | exact Nat.le_refl _ | exact Nat.le_succ _ | exact B1.out.size | exact Nat.le_succ_of_le B1.out.size) _ _ | exact below_set2 (below_set2 B2.out (by first | exact Nat.le_refl _ | exact Nat.le_succ _ | exact B1.out.size | exact Nat.le_succ_of_le B1.out.size) _ _) (by first | exact Nat.le_refl _ | exact Nat.le_succ _ | exact B1.out.size | exact Nat.le_succ_of_le B1.out.size) _ _ | exact below_al (below_set2 B2.out (by first | exact Nat.le_refl _ | exact Nat.le_succ _ | exact B1.out.size | exact Nat.le_succ_of_le B1.out.size) _ _) _))
                 have QL : Hid (N6 ≤ w6.heap.size ∧ N6 ≤ u2.heap.size ∧ w6.heap.size ≠ u2.heap.size) := Lib.hid (by
                   have := HN6.out
                   have := B1.out.size
                   have := B2.out.size
                   have := D2.out.size
                   first
                     | omega
                     | (have h := E6_u1.out.lt _ (List.mem_cons_self ..); dsimp only at h; omega)
                     | (have h := E7_u1.out.lt _ (List.mem_cons_self ..); dsimp only at h; omega)
                     | (have h := E6_u2.out.lt _ (List.mem_cons_self ..); dsimp only at h; omega)
                     | (have h := E7_u2.out.lt _ (List.mem_cons_self ..); dsimp only at h; omega))
                 obtain ⟨q6, hq6⟩ : ∃ q, q = w6.heap.size := ⟨_, rfl⟩
                 obtain ⟨q7, hq7⟩ : ∃ q, q = u2.heap.size := ⟨_, rfl⟩
                 rw [← hq6, ← hq7] at CW QL
                 rw [← hq6, ← hq7]
                 clear hq6 hq7 hW)
              | (obtain ⟨W, hW⟩ : ∃ W, W = ((((u2.setCell ⟨u1.heap.size, 0, none⟩ (.int .u64 (loN u : Nat))).setCell ⟨u1.heap.size, 1, none⟩ (.int .u64 (hiN u : Nat))).setCell ⟨w6.heap.size, 0, none⟩ (.int .i64 v)).setCell ⟨w6.heap.size, 1, none⟩ (.slice none 0 0)) := ⟨_, rfl⟩
                 rw [← hW]
                 have c0 : Cells [] u2 := Cells.nil
                 have c1 : Cells [(u1.heap.size, 0, .int .u64 0), (u1.heap.size, 1, .int .u64 0), (w6.heap.size, 0, .int .i64 0), (w6.heap.size, 1, .slice none 0 0)] u2 := cells_app (E6_u2.out) (E7_u1.out.below D2.out)
                 have n67 : w6.heap.size ≠ u1.heap.size := (by first | omega | (have h := E6_u1.out.lt _ (List.mem_cons_self ..); dsimp only at h; omega) | (have h := E7_u1.out.lt _ (List.mem_cons_self ..); dsimp only at h; omega) | (have := B1.out.size; omega))
                 have c2 := c1.set2 (by intro x hx; simp only [List.mem_cons, List.not_mem_nil, or_false] at hx; rcases hx with rfl | rfl <;> exact n67) (.int .u64 (loN u : Nat)) (.int .u64 (hiN u : Nat))
                 have c3 := cells_swap c2
                 have CW := c3.set2 (by intro x hx; simp only [List.mem_cons, List.not_mem_nil, or_false] at hx; rcases hx with rfl | rfl <;> exact fun e => n67 e.symm) (.int .i64 v) (.slice none 0 0)
                 have CW := cells_swap CW
                 have CW : Hid (Cells [(u1.heap.size, 0, (.int .u64 (loN u : Nat))), (u1.heap.size, 1, (.int .u64 (hiN u : Nat))), (w6.heap.size, 0, (.int .i64 v)), (w6.heap.size, 1, (.slice none 0 0))] W) := Lib.hid (by rw [hW]; exact CW)
                 have BW : Hid (Below w6.heap.size w6 W) := Lib.hid (by rw [hW]; exact (by first | exact Bd.out | exact below_dr (below_al (Below.refl _ _) _) | exact below_dr (below_al (below_al (Below.refl _ _) _) _) | exact B1.out | exact below_al B1.out _ | exact below_al (below_al B1.out _) _ | exact B2.out | exact below_al B2.out _ | exact below_al (below_al B2.out _) _ | exact below_set2 B2.out (by first | exact Nat.le_refl _ | exact Nat.le_succ _ | exact B1.out.size | exact Nat.le_succ_of_le B1.out.size) _ _ | exact below_set2 (below_set2 B2.out (by first | exact Nat.le_refl _ | exact Nat.le_succ _ | exact B1.out.size | exact Nat.le_succ_of_le B1.out.size) _ _) (by first | exact Nat.le_refl _ | exact Nat.le_succ _ | exact B1.out.size | exact Nat.le_succ_of_le B1.out.size) _ _ | exact below_al (below_set2 B2.out (by first | exact Nat.le_refl _ | exact Nat.le_succ _ | exact B1.out.size | exact Nat.le_succ_of_le B1.out.size) _ _) _))
                 have QL : Hid (N6 ≤ u1.heap.size ∧ N6 ≤ w6.heap.size ∧ u1.heap.size ≠ w6.heap.size) := Lib.hid (by
                   have := HN6.out
                   have := B1.out.size
                   have := B2.out.size
                   have := D2.out.size
                   first
                     | omega
                     | (have h := E6_u1.out.lt _ (List.mem_cons_self ..); dsimp only at h; omega)
                     | (have h := E7_u1.out.lt _ (List.mem_cons_self ..); dsimp only at h; omega)
                     | (have h := E6_u2.out.lt _ (List.mem_cons_self ..); dsimp only at h; omega)
                     | (have h := E7_u2.out.lt _ (List.mem_cons_self ..); dsimp only at h; omega))
                 obtain ⟨q6, hq6⟩ : ∃ q, q = u1.heap.size := ⟨_, rfl⟩
                 obtain ⟨q7, hq7⟩ : ∃ q, q = w6.heap.size := ⟨_, rfl⟩
                 rw [← hq6, ← hq7] at CW QL
                 rw [← hq6, ← hq7]
                 clear hq6 hq7 hW)
              | (obtain ⟨W, hW⟩ : ∃ W, W = ((((u2.setCell ⟨u1.heap.size, 0, none⟩ (.int .u64 (loN u : Nat))).setCell ⟨u1.heap.size, 1, none⟩ (.int .u64 (hiN u : Nat))).setCell ⟨u1.heap.size + 1, 0, none⟩ (.int .i64 v)).setCell ⟨u1.heap.size + 1, 1, none⟩ (.slice none 0 0)) := ⟨_, rfl⟩
                 rw [← hW]
                 have c0 : Cells [] u2 := Cells.nil
                 have c1 : Cells [(u1.heap.size, 0, .int .u64 0), (u1.heap.size, 1, .int .u64 0), (u1.heap.size + 1, 0, .int .i64 0), (u1.heap.size + 1, 1, .slice none 0 0)] u2 := cells_app (E6_u2.out) (E7_u2.out)
                 have n67 : u1.heap.size + 1 ≠ u1.heap.size := (by first | omega | (have h := E6_u1.out.lt _ (List.mem_cons_self ..); dsimp only at h; omega) | (have h := E7_u1.out.lt _ (List.mem_cons_self ..); dsimp only at h; omega) | (have := B1.out.size; omega))
                 have c2 := c1.set2 (by intro x hx; simp only [List.mem_cons, List.not_mem_nil, or_false] at hx; rcases hx with rfl | rfl <;> exact n67) (.int .u64 (loN u : Nat)) (.int .u64 (hiN u : Nat))
                 have c3 := cells_swap c2
                 have CW := c3.set2 (by intro x hx; simp only [List.mem_cons, List.not_mem_nil, or_false] at hx; rcases hx with rfl | rfl <;> exact fun e => n67 e.symm) (.int .i64 v) (.slice none 0 0)
                 have CW := cells_swap CW
                 have CW : Hid (Cells [(u1.heap.size, 0, (.int .u64 (loN u : Nat))), (u1.heap.size, 1, (.int .u64 (hiN u : Nat))), (u1.heap.size + 1, 0, (.int .i64 v)), (u1.heap.size + 1, 1, (.slice none 0 0))] W) := Lib.hid (by rw [hW]; exact CW)
                 have BW : Hid (Below w6.heap.size w6 W) := Lib.hid (by rw [hW]; exact (by first | exact Bd.out | exact below_dr (below_al (Below.refl _ _) _) | exact below_dr (below_al (below_al (Below.refl _ _) _) _) | exact B1.out | exact below_al B1.out _ | exact below_al (below_al B1.out _) _ | exact B2.out | exact below_al B2.out _ | exact below_al (below_al B2.out _) _ | exact below_set2 B2.out (by first | exact Nat.le_refl _ | exact Nat.le_succ _ | exact B1.out.size | exact Nat.le_succ_of_le B1.out.size) _ _ | exact below_set2 (below_set2 B2.out (by first | exact Nat.le_refl _ | exact Nat.le_succ _ | exact B1.out.size | exact Nat.le_succ_of_le B1.out.size) _ _) (by first | exact Nat.le_refl _ | exact Nat.le_succ _ | exact B1.out.size | exact Nat.le_succ_of_le B1.out.size) _ _ | exact below_al (below_set2 B2.out (by first | exact Nat.le_refl _ | exact Nat.le_succ _ | exact B1.out.size | exact Nat.le_succ_of_le B1.out.size) _ _) _))
                 have QL : Hid (N6 ≤ u1.heap.size ∧ N6 ≤ u1.heap.size + 1 ∧ u1.heap.size ≠ u1.heap.size + 1) := Lib.hid (by
                   have := HN6.out
                   have := B1.out.size
                   have := B2.out.size
                   have := D2.out.size
                   first
                     | omega
                     | (have h := E6_u1.out.lt _ (List.mem_cons_self ..); dsimp only at h; omega)
                     | (have h := E7_u1.out.lt _ (List.mem_cons_self ..); dsimp only at h; omega)
                     | (have h := E6_u2.out.lt _ (List.mem_cons_self ..); dsimp only at h; omega)
                     | (have h := E7_u2.out.lt _ (List.mem_cons_self ..); dsimp only at h; omega))
                 obtain ⟨q6, hq6⟩ : ∃ q, q = u1.heap.size := ⟨_, rfl⟩
                 obtain ⟨q7, hq7⟩ : ∃ q, q = u1.heap.size + 1 := ⟨_, rfl⟩
                 rw [← hq7, ← hq6] at CW QL
                 rw [← hq7, ← hq6]
                 clear hq6 hq7 hW)
              | (obtain ⟨W, hW⟩ : ∃ W, W = ((((u2.setCell ⟨u1.heap.size + 1, 0, none⟩ (.int .u64 (loN u : Nat))).setCell ⟨u1.heap.size + 1, 1, none⟩ (.int .u64 (hiN u : Nat))).setCell ⟨u1.heap.size, 0, none⟩ (.int .i64 v)).setCell ⟨u1.heap.size, 1, none⟩ (.slice none 0 0)) := ⟨_, rfl⟩
                 rw [← hW]
                 have c0 : Cells [] u2 := Cells.nil
                 have c1 : Cells [(u1.heap.size + 1, 0, .int .u64 0), (u1.heap.size + 1, 1, .int .u64 0), (u1.heap.size, 0, .int .i64 0), (u1.heap.size, 1, .slice none 0 0)] u2 := cells_app (E6_u2.out) (E7_u2.out)
                 have n67 : u1.heap.size ≠ u1.heap.size + 1 := (by first | omega | (have h := E6_u1.out.lt _ (List.mem_cons_self ..); dsimp only at h; omega) | (have h := E7_u1.out.lt _ (List.mem_cons_self ..); dsimp only at h; omega) | (have := B1.out.size; omega))
                 have c2 := c1.set2 (by intro x hx; simp only [List.mem_cons, List.not_mem_nil, or_false] at hx; rcases hx with rfl | rfl <;> exact n67) (.int .u64 (loN u : Nat)) (.int .u64 (hiN u : Nat))
                 have c3 := cells_swap c2
                 have CW := c3.set2 (by intro x hx; simp only [List.mem_cons, List.not_mem_nil, or_false] at hx; rcases hx with rfl | rfl <;> exact fun e => n67 e.symm) (.int .i64 v) (.slice none 0 0)
                 have CW := cells_swap CW
                 have CW : Hid (Cells [(u1.heap.size + 1, 0, (.int .u64 (loN u : Nat))), (u1.heap.size + 1, 1, (.int .u64 (hiN u : Nat))), (u1.heap.size, 0, (.int .i64 v)), (u1.heap.size, 1, (.slice none 0 0))] W) := Lib.hid (by rw [hW]; exact CW)
                 have BW : Hid (Below w6.heap.size w6 W) := Lib.hid (by rw [hW]; exact (by first | exact Bd.out | exact below_dr (below_al (Below.refl _ _) _) | exact below_dr (below_al (below_al (Below.refl _ _) _) _) | exact B1.out | exact below_al B1.out _ | exact below_al (below_al B1.out _) _ | exact B2.out | exact below_al B2.out _ | exact below_al (below_al B2.out _) _ | exact below_set2 B2.out (by first | exact Nat.le_refl _ | exact Nat.le_succ _ | exact B1.out.size | exact Nat.le_succ_of_le B1.out.size) _ _ | exact below_set2 (below_set2 B2.out (by first | exact Nat.le_refl _ | exact Nat.le_succ _ | exact B1.out.size | exact Nat.le_succ_of_le B1.out.size) _ _) (by first | exact Nat.le_refl _ | exact Nat.le_succ _ | exact B1.out.size | exact Nat.le_succ_of_le B1.out.size) _ _ | exact below_al (below_set2 B2.out (by first | exact Nat.le_refl _ | exact Nat.le_succ _ | exact B1.out.size | exact Nat.le_succ_of_le B1.out.size) _ _) _))
                 have QL : Hid (N6 ≤ u1.heap.size + 1 ∧ N6 ≤ u1.heap.size ∧ u1.heap.size + 1 ≠ u1.heap.size) := Lib.hid (by
                   have := HN6.out
                   have := B1.out.size
                   have := B2.out.size
                   have := D2.out.size
                   first
                     | omega
                     | (have h := E6_u1.out.lt _ (List.mem_cons_self ..); dsimp only at h; omega)
                     | (have h := E7_u1.out.lt _ (List.mem_cons_self ..); dsimp only at h; omega)
                     | (have h := E6_u2.out.lt _ (List.mem_cons_self ..); dsimp only at h; omega)
                     | (have h := E7_u2.out.lt _ (List.mem_cons_self ..); dsimp only at h; omega))
                 obtain ⟨q6, hq6⟩ : ∃ q, q = u1.heap.size + 1 := ⟨_, rfl⟩
                 obtain ⟨q7, hq7⟩ : ∃ q, q = u1.heap.size := ⟨_, rfl⟩
                 rw [← hq6, ← hq7] at CW QL
                 rw [← hq6, ← hq7]
                 clear hq6 hq7 hW)
              | (obtain ⟨W, hW⟩ : ∃ W, W = (((u2.setCell ⟨u1.heap.size, 0, none⟩ (.int .u64 (loN u : Nat))).setCell ⟨u1.heap.size, 1, none⟩ (.int .u64 (hiN u : Nat))).alloc (.cells #[.int .i64 v, .slice none 0 0] 26)) := ⟨_, rfl⟩
                 rw [← hW]
                 have c0 : Cells [] u2 := Cells.nil
                 have c1 : Cells [(u1.heap.size, 0, .int .u64 0), (u1.heap.size, 1, .int .u64 0)] u2 := E6_u2.out
                 have c2 := c1.set2 (by intro x hx; cases hx) (.int .u64 (loN u : Nat)) (.int .u64 (hiN u : Nat))
                 have c3 := c2.alloc2 (.int .i64 v) (.slice none 0 0) 26 (b := u2.heap.size) (by simp [World.setCell])
                 have CW := cells_swap c3
                 have CW : Hid (Cells [(u1.heap.size, 0, (.int .u64 (loN u : Nat))), (u1.heap.size, 1, (.int .u64 (hiN u : Nat))), (u2.heap.size, 0, (.int .i64 v)), (u2.heap.size, 1, (.slice none 0 0))] W) := Lib.hid (by rw [hW]; exact CW)
                 have BW : Hid (Below w6.heap.size w6 W) := Lib.hid (by rw [hW]; exact (by first | exact Bd.out | exact below_dr (below_al (Below.refl _ _) _) | exact below_dr (below_al (below_al (Below.refl _ _) _) _) | exact B1.out | exact below_al B1.out _ | exact below_al (below_al B1.out _) _ | exact B2.out | exact below_al B2.out _ | exact below_al (below_al B2.out _) _ | exact below_set2 B2.out (by first | exact Nat.le_refl _ | exact Nat.le_succ _ | exact B1.out.size | exact Nat.le_succ_of_le B1.out.size) _ _ | exact below_set2 (below_set2 B2.out (by first | exact Nat.le_refl _ | exact Nat.le_succ _ | exact B1.out.size | exact Nat.le_succ_of_le B1.out.size) _ _) (by first | exact Nat.le_refl _ | exact Nat.le_succ _ | exact B1.out.size | exact Nat.le_succ_of_le B1.out.size) _ _ | exact below_al (below_set2 B2.out (by first | exact Nat.le_refl _ | exact Nat.le_succ _ | exact B1.out.size | exact Nat.le_succ_of_le B1.out.size) _ _) _))
                 have QL : Hid (N6 ≤ u1.heap.size ∧ N6 ≤ u2.heap.size ∧ u1.heap.size ≠ u2.heap.size) := Lib.hid (by
                   have := HN6.out
                   have := B1.out.size
                   have := B2.out.size
                   have := D2.out.size
                   first
                     | omega
                     | (have h := E6_u1.out.lt _ (List.mem_cons_self ..); dsimp only at h; omega)
                     | (have h := E7_u1.out.lt _ (List.mem_cons_self ..); dsimp only at h; omega)
                     | (have h := E6_u2.out.lt _ (List.mem_cons_self ..); dsimp only at h; omega)
                     | (have h := E7_u2.out.lt _ (List.mem_cons_self ..); dsimp only at h; omega))
                 obtain ⟨q6, hq6⟩ : ∃ q, q = u1.heap.size := ⟨_, rfl⟩
                 obtain ⟨q7, hq7⟩ : ∃ q, q = u2.heap.size := ⟨_, rfl⟩
                 rw [← hq6, ← hq7] at CW QL
                 rw [← hq6, ← hq7]
                 clear hq6 hq7 hW)
              | (obtain ⟨W, hW⟩ : ∃ W, W = (((u2.setCell ⟨w6.heap.size, 0, none⟩ (.int .i64 v)).setCell ⟨w6.heap.size, 1, none⟩ (.slice none 0 0)).alloc (.cells #[.int .u64 (loN u : Nat), .int .u64 (hiN u : Nat)] 104)) := ⟨_, rfl⟩
                 rw [← hW]
                 have c0 : Cells [] u2 := Cells.nil
                 have c1 : Cells [(w6.heap.size, 0, .int .i64 0), (w6.heap.size, 1, .slice none 0 0)] u2 := E7_u1.out.below D2.out
                 have c2 := c1.set2 (by intro x hx; cases hx) (.int .i64 v) (.slice none 0 0)
                 have c3 := c2.alloc2 (.int .u64 (loN u : Nat)) (.int .u64 (hiN u : Nat)) 104 (b := u2.heap.size) (by simp [World.setCell])
                 have CW := c3
                 have CW : Hid (Cells [(u2.heap.size, 0, (.int .u64 (loN u : Nat))), (u2.heap.size, 1, (.int .u64 (hiN u : Nat))), (w6.heap.size, 0, (.int .i64 v)), (w6.heap.size, 1, (.slice none 0 0))] W) := Lib.hid (by rw [hW]; exact CW)
                 have BW : Hid (Below w6.heap.size w6 W) := Lib.hid (by rw [hW]; exact (by first | exact Bd.out | exact below_dr (below_al (Below.refl _ _) _) | exact below_dr (below_al (below_al (Below.refl _ _) _) _) | exact B1.out | exact below_al B1.out _ | exact below_al (below_al B1.out _) _ | exact B2.out | exact below_al B2.out _ | exact below_al (below_al B2.out _) _ | exact below_set2 B2.out (by first | exact Nat.le_refl _ | exact Nat.le_succ _ | exact B1.out.size | exact Nat.le_succ_of_le B1.out.size) _ _ | exact below_set2 (below_set2 B2.out (by first | exact Nat.le_refl _ | exact Nat.le_succ _ | exact B1.out.size | exact Nat.le_succ_of_le B1.out.size) _ _) (by first | exact Nat.le_refl _ | exact Nat.le_succ _ | exact B1.out.size | exact Nat.le_succ_of_le B1.out.size) _ _ | exact below_al (below_set2 B2.out (by first | exact Nat.le_refl _ | exact Nat.le_succ _ | exact B1.out.size | exact Nat.le_succ_of_le B1.out.size) _ _) _))
                 have QL : Hid (N6 ≤ u2.heap.size ∧ N6 ≤ w6.heap.size ∧ u2.heap.size ≠ w6.heap.size) := Lib.hid (by
                   have := HN6.out
                   have := B1.out.size
                   have := B2.out.size
                   have := D2.out.size
                   first
                     | omega
                     | (have h := E6_u1.out.lt _ (List.mem_cons_self ..); dsimp only at h; omega)
                     | (have h := E7_u1.out.lt _ (List.mem_cons_self ..); dsimp only at h; omega)
                     | (have h := E6_u2.out.lt _ (List.mem_cons_self ..); dsimp only at h; omega)
                     | (have h := E7_u2.out.lt _ (List.mem_cons_self ..); dsimp only at h; omega))
                 obtain ⟨q6, hq6⟩ : ∃ q, q = u2.heap.size := ⟨_, rfl⟩
                 obtain ⟨q7, hq7⟩ : ∃ q, q = w6.heap.size := ⟨_, rfl⟩
                 rw [← hq6, ← hq7] at CW QL
                 rw [← hq6, ← hq7]
                 clear hq6 hq7 hW)
              | (obtain ⟨W, hW⟩ : ∃ W, W = (((u2.setCell ⟨u1.heap.size, 0, none⟩ (.int .i64 v)).setCell ⟨u1.heap.size, 1, none⟩ (.slice none 0 0)).alloc (.cells #[.int .u64 (loN u : Nat), .int .u64 (hiN u : Nat)] 104)) := ⟨_, rfl⟩
                 rw [← hW]
                 have c0 : Cells [] u2 := Cells.nil
                 have c1 : Cells [(u1.heap.size, 0, .int .i64 0), (u1.heap.size, 1, .slice none 0 0)] u2 := E7_u2.out
                 have c2 := c1.set2 (by intro x hx; cases hx) (.int .i64 v) (.slice none 0 0)
                 have c3 := c2.alloc2 (.int .u64 (loN u : Nat)) (.int .u64 (hiN u : Nat)) 104 (b := u2.heap.size) (by simp [World.setCell])
                 have CW := c3
                 have CW : Hid (Cells [(u2.heap.size, 0, (.int .u64 (loN u : Nat))), (u2.heap.size, 1, (.int .u64 (hiN u : Nat))), (u1.heap.size, 0, (.int .i64 v)), (u1.heap.size, 1, (.slice none 0 0))] W) := Lib.hid (by rw [hW]; exact CW)
                 have BW : Hid (Below w6.heap.size w6 W) := Lib.hid (by rw [hW]; exact (by first | exact Bd.out | exact below_dr (below_al (Below.refl _ _) _) | exact below_dr (below_al (below_al (Below.refl _ _) _) _) | exact B1.out | exact below_al B1.out _ | exact below_al (below_al B1.out _) _ | exact B2.out | exact below_al B2.out _ | exact below_al (below_al B2.out _) _ | exact below_set2 B2.out (by first | exact Nat.le_refl _ | exact Nat.le_succ _ | exact B1.out.size | exact Nat.le_succ_of_le B1.out.size) _ _ | exact below_set2 (below_set2 B2.out (by first | exact Nat.le_refl _ | exact Nat.le_succ _ | exact B1.out.size | exact Nat.le_succ_of_le B1.out.size) _ _) (by first | exact Nat.le_refl _ | exact Nat.le_succ _ | exact B1.out.size | exact Nat.le_succ_of_le B1.out.size) _ _ | exact below_al (below_set2 B2.out (by first | exact Nat.le_refl _ | exact Nat.le_succ _ | exact B1.out.size | exact Nat.le_succ_of_le B1.out.size) _ _) _))
                 have QL : Hid (N6 ≤ u2.heap.size ∧ N6 ≤ u1.heap.size ∧ u2.heap.size ≠ u1.heap.size) := Lib.hid (by
                   have := HN6.out
                   have := B1.out.size
                   have := B2.out.size
                   have := D2.out.size
                   first
                     | omega
                     | (have h := E6_u1.out.lt _ (List.mem_cons_self ..); dsimp only at h; omega)
                     | (have h := E7_u1.out.lt _ (List.mem_cons_self ..); dsimp only at h; omega)
                     | (have h := E6_u2.out.lt _ (List.mem_cons_self ..); dsimp only at h; omega)
                     | (have h := E7_u2.out.lt _ (List.mem_cons_self ..); dsimp only at h; omega))
                 obtain ⟨q6, hq6⟩ : ∃ q, q = u2.heap.size := ⟨_, rfl⟩
                 obtain ⟨q7, hq7⟩ : ∃ q, q = u1.heap.size := ⟨_, rfl⟩
                 rw [← hq6, ← hq7] at CW QL
                 rw [← hq6, ← hq7]
                 clear hq6 hq7 hW)
              | (obtain ⟨W, hW⟩ : ∃ W, W = ((u2.alloc (.cells #[.int .u64 (loN u : Nat), .int .u64 (hiN u : Nat)] 104)).alloc (.cells #[.int .i64 v, .slice none 0 0] 26)) := ⟨_, rfl⟩
                 rw [← hW]
                 have c0 : Cells [] u2 := Cells.nil
                 have c2 := c0.alloc2 (.int .u64 (loN u : Nat)) (.int .u64 (hiN u : Nat)) 104 (b := u2.heap.size) rfl
                 have c3 := c2.alloc2 (.int .i64 v) (.slice none 0 0) 26 (b := u2.heap.size + 1) (by simp)
                 have CW := cells_swap c3
                 have CW : Hid (Cells [(u2.heap.size, 0, (.int .u64 (loN u : Nat))), (u2.heap.size, 1, (.int .u64 (hiN u : Nat))), (u2.heap.size + 1, 0, (.int .i64 v)), (u2.heap.size + 1, 1, (.slice none 0 0))] W) := Lib.hid (by rw [hW]; exact CW)
                 have BW : Hid (Below w6.heap.size w6 W) := Lib.hid (by rw [hW]; exact (by first | exact Bd.out | exact below_dr (below_al (Below.refl _ _) _) | exact below_dr (below_al (below_al (Below.refl _ _) _) _) | exact B1.out | exact below_al B1.out _ | exact below_al (below_al B1.out _) _ | exact B2.out | exact below_al B2.out _ | exact below_al (below_al B2.out _) _ | exact below_set2 B2.out (by first | exact Nat.le_refl _ | exact Nat.le_succ _ | exact B1.out.size | exact Nat.le_succ_of_le B1.out.size) _ _ | exact below_set2 (below_set2 B2.out (by first | exact Nat.le_refl _ | exact Nat.le_succ _ | exact B1.out.size | exact Nat.le_succ_of_le B1.out.size) _ _) (by first | exact Nat.le_refl _ | exact Nat.le_succ _ | exact B1.out.size | exact Nat.le_succ_of_le B1.out.size) _ _ | exact below_al (below_set2 B2.out (by first | exact Nat.le_refl _ | exact Nat.le_succ _ | exact B1.out.size | exact Nat.le_succ_of_le B1.out.size) _ _) _))
                 have QL : Hid (N6 ≤ u2.heap.size ∧ N6 ≤ u2.heap.size + 1 ∧ u2.heap.size ≠ u2.heap.size + 1) := Lib.hid (by
                   have := HN6.out
                   have := B1.out.size
                   have := B2.out.size
                   have := D2.out.size
                   first
                     | omega
                     | (have h := E6_u1.out.lt _ (List.mem_cons_self ..); dsimp only at h; omega)
                     | (have h := E7_u1.out.lt _ (List.mem_cons_self ..); dsimp only at h; omega)
                     | (have h := E6_u2.out.lt _ (List.mem_cons_self ..); dsimp only at h; omega)
                     | (have h := E7_u2.out.lt _ (List.mem_cons_self ..); dsimp only at h; omega))
                 obtain ⟨q6, hq6⟩ : ∃ q, q = u2.heap.size := ⟨_, rfl⟩
                 obtain ⟨q7, hq7⟩ : ∃ q, q = u2.heap.size + 1 := ⟨_, rfl⟩
                 rw [← hq7, ← hq6] at CW QL
                 rw [← hq7, ← hq6]
                 clear hq6 hq7 hW)
              | (obtain ⟨W, hW⟩ : ∃ W, W = ((u2.alloc (.cells #[.int .i64 v, .slice none 0 0] 26)).alloc (.cells #[.int .u64 (loN u : Nat), .int .u64 (hiN u : Nat)] 104)) := ⟨_, rfl⟩
                 rw [← hW]
                 have c0 : Cells [] u2 := Cells.nil
                 have c2 := c0.alloc2 (.int .i64 v) (.slice none 0 0) 26 (b := u2.heap.size) rfl
                 have c3 := c2.alloc2 (.int .u64 (loN u : Nat)) (.int .u64 (hiN u : Nat)) 104 (b := u2.heap.size + 1) (by simp)
                 have CW := c3
                 have CW : Hid (Cells [(u2.heap.size + 1, 0, (.int .u64 (loN u : Nat))), (u2.heap.size + 1, 1, (.int .u64 (hiN u : Nat))), (u2.heap.size, 0, (.int .i64 v)), (u2.heap.size, 1, (.slice none 0 0))] W) := Lib.hid (by rw [hW]; exact CW)
                 have BW : Hid (Below w6.heap.size w6 W) := Lib.hid (by rw [hW]; exact (by first | exact Bd.out | exact below_dr (below_al (Below.refl _ _) _) | exact below_dr (below_al (below_al (Below.refl _ _) _) _) | exact B1.out | exact below_al B1.out _ | exact below_al (below_al B1.out _) _ | exact B2.out | exact below_al B2.out _ | exact below_al (below_al B2.out _) _ | exact below_set2 B2.out (by first | exact Nat.le_refl _ | exact Nat.le_succ _ | exact B1.out.size | exact Nat.le_succ_of_le B1.out.size) _ _ | exact below_set2 (below_set2 B2.out (by first | exact Nat.le_refl _ | exact Nat.le_succ _ | exact B1.out.size | exact Nat.le_succ_of_le B1.out.size) _ _) (by first | exact Nat.le_refl _ | exact Nat.le_succ _ | exact B1.out.size | exact Nat.le_succ_of_le B1.out.size) _ _ | exact below_al (below_set2 B2.out (by first | exact Nat.le_refl _ | exact Nat.le_succ _ | exact B1.out.size | exact Nat.le_succ_of_le B1.out.size) _ _) _))
                 have QL : Hid (N6 ≤ u2.heap.size + 1 ∧ N6 ≤ u2.heap.size ∧ u2.heap.size + 1 ≠ u2.heap.size) := Lib.hid (by
                   have := HN6.out
                   have := B1.out.size
                   have := B2.out.size
                   have := D2.out.size
                   first
                     | omega
                     | (have h := E6_u1.out.lt _ (List.mem_cons_self ..); dsimp only at h; omega)
                     | (have h := E7_u1.out.lt _ (List.mem_cons_self ..); dsimp only at h; omega)
                     | (have h := E6_u2.out.lt _ (List.mem_cons_self ..); dsimp only at h; omega)
                     | (have h := E7_u2.out.lt _ (List.mem_cons_self ..); dsimp only at h; omega))
                 obtain ⟨q6, hq6⟩ : ∃ q, q = u2.heap.size + 1 := ⟨_, rfl⟩
                 obtain ⟨q7, hq7⟩ : ∃ q, q = u2.heap.size := ⟨_, rfl⟩
                 rw [← hq6, ← hq7] at CW QL
                 rw [← hq6, ← hq7]
                 clear hq6 hq7 hW)
          all_goals
            go_wp2_with fail
            go_meet
            exact ⟨q6, q7, rfl, rfl, CW, BW, QL⟩
        case rest =>
          obtain ⟨q6, q7, rfl, rfl, CW, BW, QL⟩ := hcut
          obtain ⟨W, hW⟩ : ∃ W : World, W = wc := ⟨_, rfl⟩
          subst hW
          have HHW := Lib.hid (HH.out.below BW.out)
          have c0 := HHW.out.c0
          have CQ6 := Lib.hid (CW.out.sub (M := [(q6, 0, .int .u64 (loN u : Nat)), (q6, 1, .int .u64 (hiN u : Nat))]) (by intro x hx; simp only [List.mem_cons, List.not_mem_nil, or_false] at hx ⊢; rcases hx with rfl | rfl <;> simp))
          have CQ7 := Lib.hid (CW.out.sub (M := [(q7, 1, .slice none 0 0), (q7, 0, .int .i64 v)]) (by intro x hx; simp only [List.mem_cons, List.not_mem_nil, or_false] at hx ⊢; rcases hx with rfl | rfl <;> simp))
          have L6 := Lib.hid (CQ6.out.lt (q6, 0, _) (List.mem_cons_self ..))
          have L7 := Lib.hid (CQ7.out.lt (q7, 1, _) (List.mem_cons_self ..))
          obtain ⟨ps, hpv, hps, hpr⟩ := HST.out.own.pairs
          have HPV := Lib.hid hpv
          have HPS := Lib.hid hps
          have HPR := Lib.hid hpr
          have HN0 : Hid (OwnV W W.heap.size 41 none 0 0 []) := Lib.hid (by
            obtain ⟨ps0, h1, h2, _⟩ := (OwnL.nil (w := W) (B := W.heap.size) (K := 0)).pairs
            have : ps0 = [] := by simpa using h2
            subst this
            exact h1)
          have hZ6 := QL
          clear hpv hps hpr
          go_wp2_with fail
          go_loopw [47] (fun i wr => ∃ (m l c' : Nat) (A' : Option Addr) (qs : List (Value × List Int)), m ≤ nM ∧ i = .int .i64 m ∧ l ≤ m ∧ Hid (qs = (ps.take m).filter (fun p => decide (p.2 ∈ T))) ∧ Hid (OwnV wr W.heap.size 41 A' l c' (qs.map (·.1))) ∧ Hid (Cells [(q6, 0, .int .u64 (loN u : Nat)), (q6, 1, .int .u64 (hiN u : Nat))] wr) ∧ Hid (Cells [(q7, 1, .slice A' l c'), (q7, 0, .int .i64 v)] wr) ∧ Hid (Below w6.heap.size w6 wr) ∧ Hid (W.heap.size ≤ wr.heap.size)) (fun i _ => nM - (intOf i).toNat)
          case atStart => exact ⟨0, 0, 0, none, [], Nat.zero_le _, rfl, Nat.le_refl _, Lib.hid (by simp), HN0, CQ6, CQ7, BW, Lib.hid (Nat.le_refl _)⟩
          case round =>
            clear c0
            obtain ⟨m, l, c', A', qs, hm, rfl, hlm, HQ, HOV, K6, K7, HBr, HSz⟩ := hrel
            have k60 := K6.out.at_ (b := q6) (o := 0) (V := .int .u64 (loN u : Nat)) (by simp)
            have k61 := K6.out.at_ (b := q6) (o := 1) (V := .int .u64 (hiN u : Nat)) (by simp)
            have k71 := K7.out.at_ (b := q7) (o := 1) (V := .slice A' l c') (by simp)
            have k70 := K7.out.at_ (b := q7) (o := 0) (V := .int .i64 v) (by simp)
            by_cases hlt : m < nM
            · obtain ⟨ad, y1, rfl, _, hy1, hcy⟩ := (HPV.out.below HBr.out).rd.at_ hlt
              obtain ⟨p, hp, hpy⟩ : ∃ p, ps[m]? = some p ∧ p.1 = y1 := by
                have := hy1.out
                rw [List.getElem?_map, Option.map_eq_some_iff] at this
                exact this
              obtain ⟨A3, n3, c3, he, ho3, _⟩ := HPR.out.each p (List.mem_of_getElem? hp)
              rw [he] at hpy
              subst hpy
              have hMm : M[m]? = some p.2 := by rw [← HPS.out, List.getElem?_map, hp]; rfl
              have HPm := Lib.hid hp
              have HPe := Lib.hid he
              have hbit := HUM.out.at_ hMm
              have C5 := Lib.hid (has_any u m wr HU128.out (by omega))
              rw [wV_eq] at C5
              obtain ⟨t, ht⟩ : ∃ t, t = u.testBit m := ⟨_, rfl⟩
              rw [← ht] at C5
              have HB5 := Lib.hid (show (p.2 ∈ T) ↔ t = true from by rw [ht]; exact hbit.symm)
              clear ht hbit hMm hp he ho3
              cases t
              · have HQ2 := Lib.hid (show qs = (ps.take (m + 1)).filter (fun p => decide (p.2 ∈ T)) from by
                  rw [List.take_add_one, HPm.out, List.filter_append, ← HQ.out]
                  simp [show ¬ p.2 ∈ T from fun h => by have := HB5.out.1 h; cases this])
                go_wp2_with fail
                refine C5.out.mono ?_
                rintro e w7 ⟨rfl, hb7⟩
                have V7 := Lib.hid (HOV.out.below hb7)
                have K67 := Lib.hid (K6.out.below hb7)
                have K77 := Lib.hid (K7.out.below hb7)
                have B7 := Lib.hid (HBr.out.trans (hb7.mono HBr.out.size))
                have Z7 := Lib.hid (Nat.le_trans HSz.out hb7.size)
                clear hb7
                go_wp2_with fail
                go_roundw
                case rel => exact ⟨m + 1, l, c', A', qs, by omega, by go_num, by omega, HQ2, V7, K67, K77, B7, Z7⟩
                case measure => simp [intOf]; omega
              · have HQ2 := Lib.hid (show qs ++ [p] = (ps.take (m + 1)).filter (fun p => decide (p.2 ∈ T)) from by
                  rw [List.take_add_one, HPm.out, List.filter_append, ← HQ.out]
                  simp [HB5.out.2 rfl])
                go_wp2_with fail
                refine C5.out.mono ?_
                rintro e w7 ⟨rfl, hb7⟩
                have hb8 : Below wr.heap.size wr (w7.alloc (.cells #[.slice A3 n3 c3] 41)) := hb7.alloc hb7.size _
                have V8 := Lib.hid (HOV.out.below hb8)
                have K68 := Lib.hid (K6.out.below hb8)
                have K78 := Lib.hid (K7.out.below hb8)
                have B8 := Lib.hid (HBr.out.trans (hb8.mono HBr.out.size))
                have Z8 := Lib.hid (Nat.le_trans HSz.out hb8.size)
                have N8 := Lib.hid (rdV_new w7 (.slice A3 n3 c3) 41)
                have K77 := Lib.hid (K7.out.below hb7)
                clear hb7 hb8 k60 k61 k70 k71
                have k71 := K77.out.at_ (b := q7) (o := 1) (V := .slice A' l c') (by simp)
                have ONE := Lib.hid (show ∀ z ∈ [Value.slice A3 n3 c3], z.oneCell' = true from fun z hz => by rw [List.mem_singleton.1 hz]; rfl)
                go_wp2_with (at_builtin; refine wpList_appV eltL rfl (.tmp 56) (.tmp 58) rfl rfl rfl V8.out N8.out ONE.out (by omega) (by decide) Z8.out ?_; intro A4 c4 w4 hv4 hg4 _; have V9 := Lib.hid hv4; have D9 := Lib.hid ((Below.refl W.heap.size _).grown hg4 Z8.out V8.out.row); have G9 := Lib.hid hg4; clear hv4 hg4; have K69 := Lib.hid (K68.out.belowB D9.out (by intro x hx; simp only [List.mem_cons, List.not_mem_nil, or_false] at hx; rcases hx with rfl | rfl <;> exact L6.out)); have K79 := Lib.hid (K78.out.belowB D9.out (by intro x hx; simp only [List.mem_cons, List.not_mem_nil, or_false] at hx; rcases hx with rfl | rfl <;> exact L7.out)); have k91 := K79.out.at_ (b := q7) (o := 1) (V := .slice A' l c') (by simp); have f91 := K79.out.fr (b := q7) (o := 1) (V := .slice A' l c') (by simp))
                have VE := Lib.hid (show OwnV (w4.setCell ⟨q7, 1, none⟩ (.slice A4 (l + 1) c4)) W.heap.size 41 A4 (l + 1) c4 ((qs ++ [p]).map (·.1)) from by
                  have h := V9.out.mid (mid_setCell (p := ⟨q7, 1, none⟩) (.slice A4 (l + 1) c4) ⟨Nat.le_refl q7, Nat.lt_succ_self q7⟩) L7.out
                  simpa [HPe.out] using h)
                have KE7 := Lib.hid (K79.out.set (by intro x hx; simp only [List.mem_cons, List.not_mem_nil, or_false] at hx; subst hx; simp) (.slice A4 (l + 1) c4))
                have KE6 := Lib.hid (show Cells [(q6, 0, .int .u64 (loN u : Nat)), (q6, 1, .int .u64 (hiN u : Nat))] (w4.setCell ⟨q7, 1, none⟩ (.slice A4 (l + 1) c4)) from by
                  have h := (cells_app (K79.out.sub (M := [(q7, 1, .slice A' l c')]) (by intro x hx; simp only [List.mem_cons, List.not_mem_nil, or_false] at hx ⊢; exact .inl hx)) K69.out)
                  have h2 := Cells.set (L := [(q6, 0, .int .u64 (loN u : Nat)), (q6, 1, .int .u64 (hiN u : Nat))]) h (by intro x hx e; simp only [List.mem_cons, List.not_mem_nil, or_false] at hx; rcases hx with rfl | rfl <;> exact QL.out.2.2 e.1) (.slice A4 (l + 1) c4)
                  exact h2.sub (fun x hx => List.mem_cons_of_mem _ hx))
                have BE := Lib.hid (show Below w6.heap.size w6 (w4.setCell ⟨q7, 1, none⟩ (.slice A4 (l + 1) c4)) from ((B8.out.trans (D9.out.mono BW.out.size)).setCell (p := ⟨q7, 1, none⟩) (by rw [← HN6.out]; exact QL.out.2.1) _))
                have ZE := Lib.hid (show W.heap.size ≤ (w4.setCell ⟨q7, 1, none⟩ (.slice A4 (l + 1) c4)).heap.size from by have := Nat.le_trans Z8.out D9.out.size; simpa [World.setCell] using this)
                go_wp2_with fail
                go_roundw
                case rel => exact ⟨m + 1, l + 1, c4, A4, qs ++ [p], by omega, by go_num, by omega, HQ2, VE, KE6, KE7, BE, ZE⟩
                case measure => simp [intOf]; omega
            · have HKN := Lib.hid (show m = nM by omega)
              have XR := Lib.hid (X6.out.trans (HBr.out.mono X6.out.size))
              have CR := Lib.hid (F0.out.below XR.out)
              have r0 := CR.out.at_ (b := b + 1) (o := 0) (V := .int .i64 0) (by simp)
              have r1 := CR.out.at_ (b := b + 1) (o := 1) (V := .slice none 0 0) (by simp)
              have f0 := CR.out.fr (b := b + 1) (o := 0) (V := .int .i64 0) (by simp)
              have f1 := CR.out.fr (b := b + 1) (o := 1) (V := .slice none 0 0) (by simp)
              have hres := cells_end r0 r1 (.int .i64 v) (.slice A' l c')
              have HQE := Lib.hid (show qs.map (·.2) = T from by
                have h1 := pick_end HMA.out HTW.out.asc HTW.out.sub
                rw [HQ.out, HKN.out, List.take_of_length_le (by rw [← HNM.out, ← HPS.out, List.length_map]; exact Nat.le_refl _)]
                rw [← HPS.out, List.filter_map] at h1
                exact h1)
              have HSub : Hid (qs.Sublist ps) := Lib.hid (by rw [HQ.out]; exact (List.filter_sublist ..).trans (List.take_sublist _ _))
              have HLl : Hid (l = o.2.1.length) := Lib.hid (by
                rw [HV.out]
                show l = (redT (hitR k d) xss).length
                rw [← HT.out, ← HQE.out, List.length_map]
                have := HOV.out.len
                rw [List.length_map] at this
                exact this.symm)
              have OE : Hid (OwnM wr w0.heap.size wr.heap.size A' l c' T) := Lib.hid (by
                have h1 := ((HPR.out.sub HSub.out).below HBr.out).mono (Nat.le_trans X4.out.size (Nat.le_refl _)) (Nat.le_trans (Nat.le_trans (Nat.le_of_lt HH.out.map.lt) (Nat.le_refl _)) HBr.out.size)
                have h2 := h1.ownL (HOV.out.mono (Nat.le_trans X6.out.size BW.out.size))
                rw [HQE.out] at h2
                exact h2.m (Nat.le_refl _))
              clear HKN
              go_wp2_with fail
              refine bodyPost_ret (v := .tuple #[.agg #[.int .i64 v, .slice A' l c'], .int .i64 0]) (by simp [results, Tryz.results39, go_sem, hres.1, hres.2]) rfl ?_
              exact RetNC.mk (V := w0.heap.size) (by rw [HV.out]) HLl.out (by rw [HV.out]; exact HT.out) (by rw [HV.out]) (Hb0.out.trans (XR.out.mono Hb0.out.size)) (by rw [Hbe.out]; omega) (by rw [HZ.out]; omega) OE.out (Nat.le_refl _)
end Go.Proofs.YtoodhbafleemjaaGreat
