/- ActMilnor on the program's side. -/
import Derived.Test.YtejlkobieohgfaaMilU
import Derived.Test.YtejlkobieohgfaaMilQ
import Derived.Lib.QuietBelow
namespace Go.Proofs.Ytejlkobieohgfaa
open Go.RowKit
set_option linter.unusedVariables false

theorem milP_take_succ {a f : List (List Int)} {m : Nat} {x : List Int} (h : Hid (a[m]? = some x)) : milP (a.take (m + 1)) f = milP (a.take m) f ++ f.flatMap fun z => milW z x := by
  unfold milP
  rw [List.take_add_one, h.out, List.flatMap_append]
  simp
theorem degreeOf_any (A : Option Addr) (n c : Nat) (xss : List (List Int)) (w : World) (h : RdL w w.heap.size A n c xss) (hn : 0 < n) (hm : MiF xss) :
    Calls Try.prog 108 #[.slice A n c] w (RetIb (degM xss) w) := by
  obtain ⟨ad0, A0, n0, c0, x0, rfl, _, hx0, hc0, hr0⟩ := h.at_ hn
  have hc00 : w.cell? ad0 = some (.slice A0 n0 c0) := by simpa [Addr.add] using hc0
  have hpos : (0 : Int) < (n : Int) := by omega
  have hz : ((n : Int) == 0) = false := by simp; omega
  have hz2 : (n == 0) = false := by simp; omega
  have HD := Lib.hid (show degM xss = degX x0 from by unfold degM degT; rw [headD_of hx0.out])
  have hb := hm.each x0 (List.mem_of_getElem? hx0.out)
  have C := Lib.hid (impl.degree_any A0 n0 c0 _ x0 w hr0 (by have := hb.row.len; have := hr0.len; omega))
  rw [HD.out]
  clear h hx0 hc0 hr0 hb
  go_enter Try.func108, Try.ntmps108
  go_wp2_with fail
  refine C.out.mono ?_
  rintro e w1 ⟨rfl, h1⟩
  rw [h1]
  clear h1
  go_wp2_with fail
  go_ret
  exact RetIb.mk (y := degX x0) rfl (Below.refl _ _)

set_option maxRecDepth 100000 in
set_option maxHeartbeats 4000000 in
theorem iActMilnor (A1 : Option Addr) (n1 c1 : Nat) (xss : List (List Int)) (u : Int) (A2 : Option Addr) (n2 c2 : Nat) (yss : List (List Int)) (w : World) (h1 : RdL w w.heap.size A1 n1 c1 xss) (h2 : RdL w w.heap.size A2 n2 c2 yss) (hn1 : n1 ≤ 2000000) (hn2 : n2 ≤ 2000000) (ht1 : totalL xss ≤ 2000000) (ht2 : totalL yss ≤ 2000000) :
    Calls Try.prog 47 #[.agg #[.slice A1 n1 c1], .agg #[.int .i64 u, .slice A2 n2 c2]] w (RetPl (milO u xss yss) w) := by
  obtain ⟨w0, b, hw0, hbe, hb0, hz0, hF⟩ := start122 w (.slice A1 n1 c1) (.int .i64 u) (.slice A2 n2 c2) (.int .i64 0) (.slice none 0 0) 24 28 28
  have HL1 := Lib.hid h1.len
  have HL2 := Lib.hid h2.len
  have H1 := Lib.hid (rdL_here h1 hb0); clear h1
  have H2 := Lib.hid (rdL_here h2 hb0); clear h2
  have Hw := Lib.hid hw0; clear hw0
  have Hbe := Lib.hid hbe; clear hbe
  have Hb0 := Lib.hid hb0; clear hb0
  have HZ := Lib.hid hz0; clear hz0
  have F0 := Lib.hid hF; clear hF
  have X0 := Lib.hid (Below.refl w0.heap.size w0)
  obtain ⟨r1, hr1⟩ : ∃ r, r = isMiB xss := ⟨_, rfl⟩
  have HR1 := Lib.hid hr1; clear hr1
  obtain ⟨r2, hr2⟩ : ∃ r, r = polB u yss := ⟨_, rfl⟩
  have HR2 := Lib.hid hr2; clear hr2
  obtain ⟨o, ho⟩ : ∃ o, o = milO u xss yss := ⟨_, rfl⟩
  have HO := Lib.hid ho
  rw [← ho]
  clear ho
  go_enter Try.func47, Try.ntmps47
  go_wp2_with fail
  rw [← Hw.out, ← Hbe.out]
  have k0 := (F0.out.below X0.out).at_ (b := b) (o := 0) (V := .slice A1 n1 c1) (by simp)
  have k2 := (F0.out.below X0.out).at_ (b := b + 1) (o := 0) (V := .int .i64 u) (by simp)
  have k3 := (F0.out.below X0.out).at_ (b := b + 1) (o := 1) (V := .slice A2 n2 c2) (by simp)
  refine (isMilnor_any A1 n1 c1 xss _ H1.out hn1 ht1).mono ?_
  rintro e w1 ⟨rfl, hb1⟩
  rw [← HR1.out]
  have X1 := Lib.hid hb1; clear hb1 k0 k2 k3
  have k0 := (F0.out.below X1.out).at_ (b := b) (o := 0) (V := .slice A1 n1 c1) (by simp)
  have k2 := (F0.out.below X1.out).at_ (b := b + 1) (o := 0) (V := .int .i64 u) (by simp)
  have k3 := (F0.out.below X1.out).at_ (b := b + 1) (o := 1) (V := .slice A2 n2 c2) (by simp)
  cases r1
  · have HV := Lib.hid (HO.out.trans (milO_bad1 HR1.out.symm))
    have q0 := (F0.out.below X1.out).at_ (b := b + 1 + 1) (o := 0) (V := .int .i64 0) (by simp)
    have q1 := (F0.out.below X1.out).at_ (b := b + 1 + 1) (o := 1) (V := .slice none 0 0) (by simp)
    have f0 := (F0.out.below X1.out).fr (b := b + 1 + 1) (o := 0) (V := .int .i64 0) (by simp)
    have f1 := (F0.out.below X1.out).fr (b := b + 1 + 1) (o := 1) (V := .slice none 0 0) (by simp)
    have hres := cells_end q0 q1 (.int .i64 0) (.slice none 0 0)
    go_wp2_with fail
    refine bodyPost_ret (v := .tuple #[.agg #[.int .i64 0, .slice none 0 0], .int .i64 1]) (by simp [results, Try.results47, go_sem, hres.1, hres.2]) rfl ?_
    exact RetNC.bad (by rw [HV.out]) (by rw [HV.out]) (by rw [HV.out]) (Hb0.out.trans (X1.out.mono Hb0.out.size)) (by rw [Hbe.out]; omega)
  · go_wp2_with fail
    refine (iIsPoly u A2 n2 c2 yss _ (rdL_here H2.out X1.out) hn2 ht2).mono ?_
    rintro e w2 ⟨rfl, hb2⟩
    rw [← HR2.out]
    have X2 := Lib.hid (X1.out.trans (hb2.mono X1.out.size)); clear hb2 k0 k2 k3
    have k0 := (F0.out.below X2.out).at_ (b := b) (o := 0) (V := .slice A1 n1 c1) (by simp)
    have k2 := (F0.out.below X2.out).at_ (b := b + 1) (o := 0) (V := .int .i64 u) (by simp)
    have k3 := (F0.out.below X2.out).at_ (b := b + 1) (o := 1) (V := .slice A2 n2 c2) (by simp)
    cases r2
    · have HV := Lib.hid (HO.out.trans (milO_bad2 HR2.out.symm))
      have q0 := (F0.out.below X2.out).at_ (b := b + 1 + 1) (o := 0) (V := .int .i64 0) (by simp)
      have q1 := (F0.out.below X2.out).at_ (b := b + 1 + 1) (o := 1) (V := .slice none 0 0) (by simp)
      have f0 := (F0.out.below X2.out).fr (b := b + 1 + 1) (o := 0) (V := .int .i64 0) (by simp)
      have f1 := (F0.out.below X2.out).fr (b := b + 1 + 1) (o := 1) (V := .slice none 0 0) (by simp)
      have hres := cells_end q0 q1 (.int .i64 0) (.slice none 0 0)
      go_wp2_with fail
      refine bodyPost_ret (v := .tuple #[.agg #[.int .i64 0, .slice none 0 0], .int .i64 1]) (by simp [results, Try.results47, go_sem, hres.1, hres.2]) rfl ?_
      exact RetNC.bad (by rw [HV.out]) (by rw [HV.out]) (by rw [HV.out]) (Hb0.out.trans (X2.out.mono Hb0.out.size)) (by rw [Hbe.out]; omega)
    · have HP2 := Lib.hid (polF_of HR2.out.symm)
      have HS1 := Lib.hid (miF_of HR1.out.symm)
      by_cases hz1 : n1 = 0
      · have HV := Lib.hid (HO.out.trans (milO_void HR1.out.symm HR2.out.symm (.inl (by rw [HL1.out]; exact hz1))))
        have hz1' : ((n1 : Int) == 0) = true := by simpa using hz1
        clear hz1
        have q0 := (F0.out.below X2.out).at_ (b := b + 1 + 1) (o := 0) (V := .int .i64 0) (by simp)
        have q1 := (F0.out.below X2.out).at_ (b := b + 1 + 1) (o := 1) (V := .slice none 0 0) (by simp)
        have f0 := (F0.out.below X2.out).fr (b := b + 1 + 1) (o := 0) (V := .int .i64 0) (by simp)
        have f1 := (F0.out.below X2.out).fr (b := b + 1 + 1) (o := 1) (V := .slice none 0 0) (by simp)
        have hres := cells_end q0 q1 (.int .i64 u) (.slice none 0 0)
        go_wp2_with fail
        refine bodyPost_ret (v := .tuple #[.agg #[.int .i64 u, .slice none 0 0], .int .i64 0]) (by simp [results, Try.results47, go_sem, hres.1, hres.2]) rfl ?_
        exact RetNC.void (by rw [HV.out]) (by rw [HV.out]) (by rw [HV.out]) (Hb0.out.trans (X2.out.mono Hb0.out.size)) (by rw [Hbe.out]; omega)
      · have hz1' : ((n1 : Int) == 0) = false := by simpa using hz1
        have HZ1 := Lib.hid (show 0 < n1 by omega)
        clear hz1
        go_wp2_with fail
        refine (isZeroP_any u A2 n2 c2 _ hn2).mono ?_
        rintro e w3 ⟨rfl, hb3⟩
        have X3 := Lib.hid (X2.out.trans (hb3.mono X2.out.size)); clear hb3 k0 k2 k3
        have k0 := (F0.out.below X3.out).at_ (b := b) (o := 0) (V := .slice A1 n1 c1) (by simp)
        have k2 := (F0.out.below X3.out).at_ (b := b + 1) (o := 0) (V := .int .i64 u) (by simp)
        have k3 := (F0.out.below X3.out).at_ (b := b + 1) (o := 1) (V := .slice A2 n2 c2) (by simp)
        by_cases hz2 : n2 = 0
        · have HV := Lib.hid (HO.out.trans (milO_void HR1.out.symm HR2.out.symm (.inr (by rw [HL2.out]; exact hz2))))
          rw [decide_eq_true hz2]
          clear hz2
          have q0 := (F0.out.below X3.out).at_ (b := b + 1 + 1) (o := 0) (V := .int .i64 0) (by simp)
          have q1 := (F0.out.below X3.out).at_ (b := b + 1 + 1) (o := 1) (V := .slice none 0 0) (by simp)
          have f0 := (F0.out.below X3.out).fr (b := b + 1 + 1) (o := 0) (V := .int .i64 0) (by simp)
          have f1 := (F0.out.below X3.out).fr (b := b + 1 + 1) (o := 1) (V := .slice none 0 0) (by simp)
          have hres := cells_end q0 q1 (.int .i64 u) (.slice none 0 0)
          go_wp2_with fail
          refine bodyPost_ret (v := .tuple #[.agg #[.int .i64 u, .slice none 0 0], .int .i64 0]) (by simp [results, Try.results47, go_sem, hres.1, hres.2]) rfl ?_
          exact RetNC.void (by rw [HV.out]) (by rw [HV.out]) (by rw [HV.out]) (Hb0.out.trans (X3.out.mono Hb0.out.size)) (by rw [Hbe.out]; omega)
        · rw [decide_eq_false hz2]
          have HZ2 := Lib.hid (show 0 < n2 by omega)
          clear hz2
          obtain ⟨d1, hd1⟩ : ∃ d, d = degM xss := ⟨_, rfl⟩
          obtain ⟨d2, hd2⟩ : ∃ d, d = degL yss := ⟨_, rfl⟩
          have hposn : 0 < n1 := HZ1.out
          have D1 := fun (W : World) (hB : Below w3.heap.size w3 W) => Lib.hid (degreeOf_any A1 n1 c1 xss W (rdL_here H1.out (X3.out.trans (hB.mono X3.out.size))) hposn HS1.out)
          rw [← hd1] at D1
          have D2 := fun (W : World) (hB : Below w3.heap.size w3 W) => Lib.hid (degreeP_any u A2 n2 c2 _ yss W (rdL_here H2.out (X3.out.trans (hB.mono X3.out.size))) (Nat.le_refl _) hn2 ht2)
          rw [← hd2] at D2
          have E1 := Lib.hid hd1
          have E2 := Lib.hid hd2
          have b2 := HP2.out.deg.2
          rw [← hd2] at b2
          have hs1 : 0 ≤ d1 ∧ d1 ≤ 40 := by
            rw [hd1]
            exact HS1.out.bound (List.getElem_mem (show 0 < xss.length by rw [HL1.out]; exact hposn))
          have hwd : IntKind.i64.wrap (d1 + d2) = d1 + d2 := by rw [IntKind.wrap_i64]; omega
          clear hd1 hd2 b2 hs1
          have g0 := cell_regrown k0
          have g2 := cell_regrown k2
          have g3 := cell_regrown k3
          go_wp2_with fail
          refine wp_region_quiet_below (by kernel_rfl) (by kernel_rfl) ?_
          repeat (go_big_quiet_step ((first | (go_at_call 108; exact Calls.regrown_of ((D1 _ (below_regrown _ _ _)).out)) | (go_at_call 82; exact Calls.regrown_of ((D2 _ (below_regrown _ _ _)).out)))))
          refine wpQuiet_nil ?_
          intro _ hw'
          obtain ⟨⟨dq, osq⟩, hw''⟩ := hw'
          subst hw''
          have hb4 := below_regrown w3 dq osq
          obtain ⟨w4, hwq⟩ : ∃ W, W = Sort.grow (redrawn w3 dq) osq := ⟨_, rfl⟩
          rw [← hwq] at hb4 ⊢
          clear hwq
          have X4 := Lib.hid (X3.out.trans (hb4.mono X3.out.size))
          clear g0 g2 g3 k0 k2 k3 hb4 D1 D2
          by_cases hlim : 40 < d1 + d2
          · have HV := Lib.hid (HO.out.trans (milO_lim HR1.out.symm HR2.out.symm (by rw [HL1.out]; exact HZ1.out) (by rw [HL2.out]; exact HZ2.out) (by rw [← E1.out, ← E2.out]; exact hlim)))
            have hl : decide (40 < d1 + d2) = true := decide_eq_true hlim
            have q0 := (F0.out.below X4.out).at_ (b := b + 1 + 1) (o := 0) (V := .int .i64 0) (by simp)
            have q1 := (F0.out.below X4.out).at_ (b := b + 1 + 1) (o := 1) (V := .slice none 0 0) (by simp)
            have f0 := (F0.out.below X4.out).fr (b := b + 1 + 1) (o := 0) (V := .int .i64 0) (by simp)
            have f1 := (F0.out.below X4.out).fr (b := b + 1 + 1) (o := 1) (V := .slice none 0 0) (by simp)
            have hres := cells_end q0 q1 (.int .i64 0) (.slice none 0 0)
            go_wp2_with fail
            refine bodyPost_ret (v := .tuple #[.agg #[.int .i64 0, .slice none 0 0], .int .i64 3]) (by simp [results, Try.results47, go_sem, hres.1, hres.2]) rfl ?_
            exact RetNC.bad (by rw [HV.out]) (by rw [HV.out]) (by rw [HV.out]) (Hb0.out.trans (X4.out.mono Hb0.out.size)) (by rw [Hbe.out]; omega)
          · have HNL := Lib.hid (show xss.length = 0 ∨ yss.length = 0 ∨ degM xss + degL yss ≤ 40 from .inr (.inr (by rw [← E1.out, ← E2.out]; omega)))
            have HV := Lib.hid (HO.out.trans (milO_ok HR1.out.symm HR2.out.symm HNL.out))
            have hl : decide (40 < d1 + d2) = false := decide_eq_false hlim
            obtain ⟨k, hk⟩ : ∃ k : Nat, u = k := ⟨u.toNat, by have := HP2.out.lo; omega⟩
            have hk4 : k ≤ 4 := by have := HP2.out.hi; omega
            obtain ⟨md, mo⟩ := milO_okW HR1.out.symm HR2.out.symm hk HNL.out
            obtain ⟨d, hd⟩ : ∃ d, d = degZ yss := ⟨_, rfl⟩
            rw [← hd] at md mo
            have MD := Lib.hid md
            have MO := Lib.hid mo
            have HA2 := Lib.hid HP2.out.asc
            have L2 := Lib.hid (show yss.length ≤ 2000 from HP2.out.len)
            clear hd md mo
            subst hk
            have k0 := (F0.out.below X4.out).at_ (b := b) (o := 0) (V := .slice A1 n1 c1) (by simp)
            obtain ⟨p, hp⟩ : ∃ p, p = w4.heap.size := ⟨_, rfl⟩
            obtain ⟨w5, hw5⟩ : ∃ w5, w5 = w4.alloc (.map #[] 0) := ⟨_, rfl⟩
            have O5 : Hid (OwnP w5 p []) := Lib.hid (by rw [hw5, hp]; exact OwnP.new w4)
            have X5 := Lib.hid (X4.out.trans (show Below w0.heap.size w4 w5 from by rw [hw5]; exact (Below.refl _ _).alloc X4.out.size _))
            have HP := Lib.hid (show w0.heap.size ≤ p from by rw [hp]; exact X4.out.size)
            have hmm : ∀ t, (Instr.makeMap t none).run Try.prog w4 = .ok (.map (some p)) w5 := fun t => by rw [hp, hw5]; exact run_makeMap t w4
            clear hp hw5
            have e0 := (F0.out.below X5.out).at_ (b := b) (o := 0) (V := .slice A1 n1 c1) (by simp)
            go_wp2_with fail
            go_loopw [46] (fun i wr => ∃ (m : Nat) (L : List Int), m ≤ n1 ∧ i = .int .i64 m ∧ Hid (OwnP wr p L) ∧ Hid (Par L ((milP (xss.take m) yss).map encP)) ∧ Hid (L.length ≤ 16777216) ∧ Hid (∀ a ∈ L, 0 ≤ a ∧ a < 16777216) ∧ Hid (Below w0.heap.size w0 wr)) (fun i _ => n1 - (intOf i).toNat)
            case atStart => exact ⟨0, [], Nat.zero_le _, rfl, O5, Lib.hid (Par.refl _), Lib.hid (by simp), Lib.hid (fun a ha => by cases ha), X5⟩
            case round =>
              obtain ⟨m, L, hm, rfl, HPL, HQ, HN, HS, HX⟩ := hrel
              by_cases hlt : m < n1
              · obtain ⟨ad, A3, n3, c3, x, rfl, _, hxk, hcx, hr3⟩ := (H1.out.below HX.out).at_ hlt
                have OX := Lib.hid (MO.out x (List.mem_of_getElem? hxk.out))
                have HRX := Lib.hid (show RdS wr wr.heap.size A3 n3 c3 x from hr3.mono HX.out.size)
                have k3 := (F0.out.below HX.out).at_ (b := b + 1) (o := 1) (V := .slice A2 n2 c2) (by simp)
                have hlt' : (m : Int) < (n1 : Int) := by omega
                have hm0 : (0 : Int) ≤ (m : Int) := by omega
                clear hr3 e0 k0
                obtain ⟨wo, hwo⟩ : ∃ W : World, W = wr := ⟨_, rfl⟩
                subst hwo
                go_wp2_with fail
                go_loopw [53] (fun j wr => ∃ (q : Nat) (L' : List Int), q ≤ n2 ∧ j = .int .i64 q ∧ Hid (OwnP wr p L') ∧ Hid (Par L' ((milP (xss.take m) yss ++ (yss.take q).flatMap fun z => milW z x).map encP)) ∧ Hid (L'.length ≤ 16777216) ∧ Hid (∀ a ∈ L', 0 ≤ a ∧ a < 16777216) ∧ Hid (KeptC wo wr) ∧ Hid (Below w0.heap.size w0 wr)) (fun j _ => n2 - (intOf j).toNat)
                case atStart => exact ⟨0, L, Nat.zero_le _, rfl, HPL, Lib.hid (by simpa using HQ.out), HN, HS, Lib.hid (KeptC.refl _), HX⟩
                case round =>
                  clear k3
                  obtain ⟨q, L', hq, rfl, HPL', HQ', HN', HS', KC, HX'⟩ := hrel
                  by_cases hqt : q < n2
                  · obtain ⟨adz, A4, n4, c4, z, rfl, _, hzk, hcz, hr4⟩ := (H2.out.below HX'.out).at_ hqt
                    have DZ := Lib.hid (MD.out z (List.mem_of_getElem? hzk.out))
                    have HC := milm_any z wr p L' none A4 A3 0 0 n4 c4 n3 c3 [] x HPL'.out RdS.nil (fun _ => rfl) (hr4.mono HX'.out.size) ((HRX.out.keptC KC.out).mono KC.out.size) OX.out.row OX.out.tr (fun a ha => by cases ha) DZ.out.1 (by
                      have := DZ.out.2.1; have := OX.out.fit; simp; omega) (by rw [← hr4.len, DZ.out.2.2]; omega) (by
                      have h1 := HN'.out
                      have h2 : 256 ^ n4 ≤ 256 ^ 4 := Nat.pow_le_pow_right (by decide) (by rw [← hr4.len, DZ.out.2.2]; exact hk4)
                      have h3 : (256 : Nat) ^ 4 = 4294967296 := by decide
                      omega)
                    have HC := Lib.hid HC
                    have hqt' : (q : Int) < (n2 : Int) := by omega
                    have hq0 : (0 : Int) ≤ (q : Int) := by omega
                    clear hr4
                    go_wp2_with fail
                    refine HC.out.mono ?_
                    rintro e w9 ⟨rfl, hp9, hg9⟩
                    have P9 := Lib.hid (hp9.congr (oddI_par _).symm)
                    have X9 := Lib.hid (HX'.out.trans (below_grownBy hg9 HP.out HX'.out.size))
                    have K9 := Lib.hid (KC.out.trans (KeptC.of_grown hg9 HPL'.out.noCells))
                    have HMz := Lib.hid (show ∀ y ∈ milW z x, Mono k y from fun y hy => (milW_deg z x k d DZ.out OX.out.row.nn y hy).mono OX.out.fit)
                    have HME := Lib.hid (show (milW z x).map (fun z => encP ([] ++ z)) = (milW z x).map encP from by simp)
                    rw [HME.out] at P9 hp9
                    have SM := Lib.hid (show ∀ a ∈ L' ++ (milW z x).map encP, 0 ≤ a ∧ a < 16777216 from fun a ha => by
                      rcases List.mem_append.1 ha with ha | ha
                      · exact HS'.out a ha
                      · exact enc_small HMz.out hk4 a ha)
                    have PT := Lib.hid (show Par (oddI (L' ++ (milW z x).map encP)) ((milP (xss.take m) yss ++ (yss.take (q + 1)).flatMap fun z => milW z x).map encP) from by
                      refine (oddI_par _).trans ?_
                      rw [flat_take_succ hzk, ← List.append_assoc, List.map_append]
                      exact HQ'.out.append (Par.refl _))
                    clear hp9 hg9 HC
                    go_wp2_with fail
                    go_roundw
                    case rel => exact ⟨q + 1, _, by omega, by go_num, P9, PT, Lib.hid (oddI_small SM.out), Lib.hid (fun a ha => SM.out a (oddI_sub ha)), K9, X9⟩
                    case measure => simp [intOf]; omega
                  · obtain rfl : q = n2 := by omega
                    have PT := Lib.hid (show Par L' ((milP (xss.take (m + 1)) yss).map encP) from by
                      have h1 := HQ'.out
                      rw [List.take_of_length_le (l := yss) (by rw [HL2.out]; exact Nat.le_refl _)] at h1
                      rw [milP_take_succ hxk]; exact h1)
                    go_wp2_with fail
                    go_roundw
                    case rel => exact ⟨m + 1, L', by omega, by go_num, HPL', PT, HN', HS', HX'⟩
                    case measure => simp [intOf]; omega
              · obtain rfl : m = n1 := by omega
                have MP := Lib.hid (milP_mono MD.out MO.out)
                have Pm := Lib.hid (show OwnP wr p ((oddL (milP xss yss)).map encP) from OwnP.odd (HPL.out.congr (by
                  have := HQ.out
                  rwa [List.take_of_length_le (by rw [HL1.out]; exact Nat.le_refl _)] at this)))
                have kd1 := (F0.out.below HX.out).at_ (b := b + 1) (o := 0) (V := .int .i64 k) (by simp)
                have HT := told_any p k (oddL (milP xss yss)) wr Pm.out (oddL_mono MP.out) (by omega) (by have := oddL_small MP.out hk4; omega)
                rw [oddL_of_asc (oddL_asc _), ← HV.out] at HT
                have HT := Lib.hid HT
                clear e0 k0
                go_wp2_with fail
                refine HT.out.mono ?_
                rintro e w9 ⟨A9, c9, rfl, om9, hb9⟩
                have X9 := Lib.hid (HX.out.trans (hb9.mono HX.out.size))
                have O9 := Lib.hid (om9.mono HX.out.size (Nat.le_refl _))
                clear om9 hb9 kd1
                have C9 := Lib.hid (F0.out.below X9.out)
                have q0 := C9.out.at_ (b := b + 1 + 1) (o := 0) (V := .int .i64 0) (by simp)
                have q1 := C9.out.at_ (b := b + 1 + 1) (o := 1) (V := .slice none 0 0) (by simp)
                have f0 := C9.out.fr (b := b + 1 + 1) (o := 0) (V := .int .i64 0) (by simp)
                have f1 := C9.out.fr (b := b + 1 + 1) (o := 1) (V := .slice none 0 0) (by simp)
                have hres := cells_end q0 q1 (.int .i64 o.1) (.slice A9 o.2.1.length c9)
                go_wp2_with fail
                refine bodyPost_ret (v := .tuple #[.agg #[.int .i64 o.1, .slice A9 o.2.1.length c9], .int .i64 o.2.2]) (by simp [results, Try.results47, go_sem, hres.1, hres.2]) rfl ?_
                exact RetNC.mk (V := w0.heap.size) rfl rfl rfl rfl (Hb0.out.trans (X9.out.mono Hb0.out.size)) (by rw [Hbe.out]; omega) (by rw [HZ.out]; omega) O9.out (Nat.le_refl _)
end Go.Proofs.Ytejlkobieohgfaa

/- ActMilnor on the reference's side. -/
namespace Go.Proofs.Ytejlkobieohgfaa
open Go.RowKit
set_option linter.unusedVariables false

theorem rdS_here {w w' : World} {A : Option Addr} {n c : Nat} {xs : List Int} (h : RdS w w.heap.size A n c xs) (hb : Below w.heap.size w w') : RdS w' w'.heap.size A n c xs := (h.below hb).mono hb.size
theorem bas_zero (x r : List Int) : basT x 0 r = milW x r := by
  unfold basT
  rw [List.drop_zero, List.take_zero]
  simp
set_option maxRecDepth 100000 in
set_option maxHeartbeats 2000000 in
theorem l08Milnor_any (A1 A2 : Option Addr) (n1 c1 n2 c2 k : Nat) (d : Int) (xss yss : List (List Int)) (w : World) (h1 : RdL w w.heap.size A1 n1 c1 xss) (h2 : RdL w w.heap.size A2 n2 c2 yss) (hf : ∀ z ∈ yss, Deg k d z) (ha : Asc yss) (hw : ∀ x ∈ xss, OkR d x) (hk : k ≤ 4) (hn1 : n1 ≤ 2000) (hn2 : n2 ≤ 2000) (hk1 : 1 ≤ k) :
    Calls Try.prog 106 #[.slice A1 n1 c1, .slice A2 n2 c2] w (RetL (oddL (milP xss yss)).length (oddL (milP xss yss)) w) := by
  have HL1 := Lib.hid h1.len
  have HL2 := Lib.hid h2.len
  have H1 := Lib.hid h1
  have H2 := Lib.hid h2
  have MD := Lib.hid hf
  have MO := Lib.hid hw
  have HMo := Lib.hid (show ∀ x ∈ xss, ∀ z ∈ yss, ∀ y ∈ milW z x, Mono k y from fun x hx z hz y hy => (milW_deg z x k d (hf z hz) (hw x hx).row.nn y hy).mono (hw x hx).fit)
  have HMp := Lib.hid (show ∀ (m q : Nat) (x : List Int), x ∈ xss → ∀ y ∈ milP (xss.take m) yss ++ (yss.take q).flatMap (fun z => milW z x), Mono k y from fun m q x hx y hy => by
    rcases List.mem_append.1 hy with hy | hy
    · obtain ⟨r, hr, hy⟩ := List.mem_flatMap.1 hy
      obtain ⟨z, hz, hy⟩ := List.mem_flatMap.1 hy
      exact HMo.out r (List.mem_of_mem_take hr) z hz y hy
    · obtain ⟨z, hz, hy⟩ := List.mem_flatMap.1 hy
      exact HMo.out x hx z (List.mem_of_mem_take hz) y hy)
  obtain ⟨R, hR⟩ : ∃ R, R = RetL (oddL (milP xss yss)).length (oddL (milP xss yss)) w := ⟨_, rfl⟩
  have HR := Lib.hid hR
  rw [← hR]
  obtain ⟨B, hB⟩ : ∃ B, B = w.heap.size := ⟨_, rfl⟩
  obtain ⟨w0, hw0⟩ : ∃ w0, w0 = w.alloc (.cells #[] 29) := ⟨_, rfl⟩
  have S0 := Lib.hid (show OwnL w0 B w0.heap.size (some ⟨B, 0, none⟩) 0 0 [] from by
    have := (StL.start (Below.refl w.heap.size w) (Nat.le_refl _)).own
    rw [hw0, hB]
    simpa using this)
  have B0 := Lib.hid (show Below B w w0 from by rw [hw0, hB]; exact (Below.refl _ _).alloc (Nat.le_refl _) _)
  have HB := Lib.hid hB
  have HW0 := Lib.hid hw0
  clear h1 h2 hf ha hw hR hB hw0
  go_enter Try.func106, Try.ntmps106
  go_wp2_with fail
  rw [← HW0.out, ← HB.out]
  go_loopw [5, 6] (fun v u wr => ∃ (m l c' : Nat) (A' : Option Addr) (P : List (List Int)), m ≤ n1 ∧ u = .int .i64 m ∧ v = .slice A' l c' ∧ Hid (P = oddL (milP (xss.take m) yss)) ∧ Hid (OwnL wr B wr.heap.size A' l c' P) ∧ Hid (Below B w wr)) (fun _ u _ => n1 - (intOf u).toNat)
  case atStart => exact ⟨0, 0, 0, _, [], Nat.zero_le _, rfl, rfl, Lib.hid rfl, S0, B0⟩
  case round =>
    clear S0 B0
    obtain ⟨m, l, c', A', P, hm, rfl, rfl, HP, HO, HW⟩ := hrel
    by_cases hlt : m < n1
    · obtain ⟨adx, A3, n3, c3, x, rfl, hbx, hxk, hcx, hr3⟩ := H1.out.at_ hlt
      have OX := Lib.hid (MO.out x (List.mem_of_getElem? hxk.out))
      have HRX := Lib.hid hr3
      have HBX := Lib.hid (And.intro hbx hcx)
      have HXM := Lib.hid (List.mem_of_getElem? hxk.out)
      have hlt' : (m : Int) < (n1 : Int) := by omega
      have hm0 : (0 : Int) ≤ (m : Int) := by omega
      clear hr3 hbx hcx
      go_wp2_with fail
      go_loopw [5, 7] (fun v u wr => ∃ (q l c' : Nat) (A' : Option Addr) (P : List (List Int)), q ≤ n2 ∧ u = .int .i64 q ∧ v = .slice A' l c' ∧ Hid (P = oddL (milP (xss.take m) yss ++ (yss.take q).flatMap fun z => milW z x)) ∧ Hid (OwnL wr B wr.heap.size A' l c' P) ∧ Hid (Below B w wr)) (fun _ u _ => n2 - (intOf u).toNat)
      case atStart => exact ⟨0, l, c', A', P, Nat.zero_le _, rfl, rfl, Lib.hid (by simpa using HP.out), HO, HW⟩
      case round =>
        clear HP HO HW
        obtain ⟨q, l, c', A', P, hq, rfl, rfl, HP, HO, HW⟩ := hrel
        by_cases hqt : q < n2
        · have WW := Lib.hid (show Below w.heap.size w wr from by rw [← HB.out]; exact HW.out)
          obtain ⟨adz, A4, n4, c4, z, rfl, hbz, hzk, hcz, hr4⟩ := H2.out.at_ hqt
          have DZ := Lib.hid (MD.out z (List.mem_of_getElem? hzk.out))
          obtain rfl : k = n4 := by rw [← hr4.len]; exact DZ.out.2.2.symm
          obtain ⟨hbx, hcx⟩ := HBX.out
          have kx0 : wr.cell? (adx.add m) = some (.slice A3 n3 c3) := (WW.out.cell (p := adx.add m) (by rw [block_of_add]; exact hbx)).trans hcx
          have kz0 : wr.cell? (adz.add q) = some (.slice A4 k c4) := (WW.out.cell (p := adz.add q) (by rw [block_of_add]; exact hbz)).trans hcz
          have hbx2 : (adx.add m).block < wr.heap.size := by rw [block_of_add]; exact Nat.lt_of_lt_of_le hbx WW.out.size
          have hbz2 : (adz.add q).block < wr.heap.size := by rw [block_of_add]; exact Nat.lt_of_lt_of_le hbz WW.out.size
          have Wd := Lib.hid (show Below w.heap.size w wr.drew from below_drewN WW.out 1)
          have HC := bas_any (k - 1) A3 A4 n3 c3 k c4 0 x z wr.drew (by omega) (rdS_here HRX.out Wd.out) (rdS_here hr4 Wd.out) OX.out.row DZ.out.1 (by rw [DZ.out.2.1]; exact OX.out.fit) (by omega)
          rw [bas_zero] at HC
          have e1 : ((0 : Nat) : Int) = 0 := rfl
          rw [e1] at HC
          obtain ⟨Q, hQ⟩ : ∃ Q, Q = milW z x := ⟨_, rfl⟩
          have HQm := Lib.hid (show ∀ y ∈ Q, Mono k y from by rw [hQ]; exact HMo.out x HXM.out z (List.mem_of_getElem? hzk.out))
          rw [← hQ] at HC
          have HC := Lib.hid HC
          have HQ := Lib.hid hQ
          have HBB := Lib.hid (And.intro hbx2 hbz2)
          have HOd := Lib.hid (HO.out.drewN 1)
          have kd := (show wr.drew.cell? (adx.add m) = some (.slice A3 n3 c3) ∧ wr.drew.cell? (adz.add q) = some (.slice A4 k c4) from ⟨kx0, kz0⟩)
          have hs1 := small_of (HMp.out m q x HXM.out) hk
          rw [← HP.out] at hs1
          have hq1 := small_of HQm.out hk
          have hPl := HO.out.len
          have HPA := Lib.hid (show Asc P from by rw [HP.out]; exact oddL_asc _)
          have hE := Lib.hid (show oddL (P ++ oddL Q) = oddL (milP (xss.take m) yss ++ (yss.take (q + 1)).flatMap fun z => milW z x) from by
            rw [flatT_succ hzk, ← List.append_assoc, HP.out, ← HQ.out]
            exact oddL_oddL _ _)
          obtain ⟨lq, hlq⟩ : ∃ lq, lq = (oddL Q).length := ⟨_, rfl⟩
          rw [← hlq] at HC
          have hb1 : l ≤ 16777216 := by rw [← hPl]; exact hs1.1
          have hb2 : lq ≤ 16777216 := by rw [hlq]; exact hq1.1
          have HSm := Lib.hid (fun (W : World) (A4 : Option Addr) (c4' : Nat) (r1 : RdL W W.heap.size A' l c' P) (r2 : RdL W W.heap.size A4 lq c4' (oddL Q)) => (by
            have := l01Sum_any A' A4 l c' lq c4' P (oddL Q) W r1 r2 (by omega) (by omega) (by omega) (by omega) HPA.out (oddL_asc Q)
            rw [hE.out] at this
            exact this : Calls Try.prog 84 #[.slice A' l c', .slice A4 lq c4'] W (RetL (oddL (milP (xss.take m) yss ++ (yss.take (q + 1)).flatMap fun z => milW z x)).length (oddL (milP (xss.take m) yss ++ (yss.take (q + 1)).flatMap fun z => milW z x)) W)))
          have hqt' : (q : Int) < (n2 : Int) := by omega
          have hq0 : (0 : Int) ≤ (q : Int) := by omega
          have zB : B ≤ wr.heap.size := by rw [HB.out]; exact WW.out.size
          clear hr4 hbx hcx hbz hcz e1 hQ hbx2 hbz2 hs1 hq1 hPl hlq
          go_wp2_with fail
          clear kx0 kz0
          go_region_held3 (fun w' => w'.cell? (adx.add m) = some (.slice A3 n3 c3) ∧ w'.cell? (adz.add q) = some (.slice A4 k c4)) (first | (with_reducible exact kd) | (with_reducible exact k4) | (with_reducible exact k5) | fail)
            (first
              | (go_at_call 145
                 refine HC.out.mono ?_
                 rintro e w4 ⟨A5, c5, rfl, ho4, hb4⟩
                 have B4 := Lib.hid (show Below wr.heap.size wr w4 from Ext.trans (Ext.drew (Ext.refl wr)) hb4)
                 have k4 := (show w4.cell? (adx.add m) = some (.slice A3 n3 c3) ∧ w4.cell? (adz.add q) = some (.slice A4 k c4) from ⟨(B4.out.cell (p := adx.add m) HBB.out.1).trans kd.1, (B4.out.cell (p := adz.add q) HBB.out.2).trans kd.2⟩)
                 have R4 := Lib.hid ho4.rd
                 have RP4 := Lib.hid (HO.out.below B4.out).rd
                 clear ho4 hb4)
              | (go_at_call 84
                 refine (HSm.out _ _ _ RP4.out R4.out).mono ?_
                 rintro e w5 ⟨A6, c6, rfl, ho5, hb5⟩
                 obtain ⟨ls, hls⟩ : ∃ ls, ls = (oddL (milP (xss.take m) yss ++ (yss.take (q + 1)).flatMap fun z => milW z x)).length := ⟨_, rfl⟩
                 rw [← hls] at ho5 ⊢
                 have B5 := Lib.hid (B4.out.trans (hb5.mono B4.out.size))
                 have k5 := (show w5.cell? (adx.add m) = some (.slice A3 n3 c3) ∧ w5.cell? (adz.add q) = some (.slice A4 k c4) from ⟨(B5.out.cell (p := adx.add m) HBB.out.1).trans kd.1, (B5.out.cell (p := adz.add q) HBB.out.2).trans kd.2⟩)
                 have O5 := Lib.hid (ho5.mono (Nat.le_trans zB B4.out.size) (Nat.le_refl _))
                 have W5 := Lib.hid (HW.out.trans (B5.out.mono zB))
                 clear ho5 hb5 hls))
          all_goals
            go_wp2_with fail
            go_roundw
            case rel => exact ⟨q + 1, ls, c6, A6, _, by omega, by go_num, rfl, Lib.hid rfl, O5, W5⟩
            case measure => simp [intOf]; omega
        · obtain rfl : q = n2 := by omega
          have HPn := Lib.hid (show P = oddL (milP (xss.take (m + 1)) yss) from by
            rw [HP.out, milP_take_succ hxk, List.take_of_length_le (l := yss) (by rw [HL2.out]; exact Nat.le_refl _)])
          go_wp2_with fail
          go_roundw
          case rel => exact ⟨m + 1, l, c', A', P, by omega, by go_num, rfl, HPn, HO, HW⟩
          case measure => simp [intOf]; omega
    · obtain rfl : m = n1 := by omega
      have HE := Lib.hid (show P = oddL (milP xss yss) from by rw [HP.out, List.take_of_length_le (by rw [HL1.out]; exact Nat.le_refl _)])
      go_wp2_with fail
      rw [HR.out, ← HE.out]
      rw [HB.out] at HO HW
      obtain rfl := HO.out.len
      exact ⟨A', c', rfl, HO.out, HW.out⟩

set_option maxRecDepth 100000 in
set_option maxHeartbeats 4000000 in
theorem sActMilnor (A1 : Option Addr) (n1 c1 : Nat) (xss : List (List Int)) (u : Int) (A2 : Option Addr) (n2 c2 : Nat) (yss : List (List Int)) (w : World) (h1 : RdL w w.heap.size A1 n1 c1 xss) (h2 : RdL w w.heap.size A2 n2 c2 yss) (hn1 : n1 ≤ 2000000) (hn2 : n2 ≤ 2000000) (ht1 : totalL xss ≤ 2000000) (ht2 : totalL yss ≤ 2000000) :
    Calls Try.prog 45 #[.agg #[.slice A1 n1 c1], .agg #[.int .i64 u, .slice A2 n2 c2]] w (RetPl (milO u xss yss) w) := by
  obtain ⟨w0, b, hw0, hbe, hb0, hz0, hF⟩ := start122 w (.slice A1 n1 c1) (.int .i64 u) (.slice A2 n2 c2) (.int .i64 0) (.slice none 0 0) 24 28 28
  have HL1 := Lib.hid h1.len
  have HL2 := Lib.hid h2.len
  have H1 := Lib.hid (rdL_here h1 hb0); clear h1
  have H2 := Lib.hid (rdL_here h2 hb0); clear h2
  have Hw := Lib.hid hw0; clear hw0
  have Hbe := Lib.hid hbe; clear hbe
  have Hb0 := Lib.hid hb0; clear hb0
  have HZ := Lib.hid hz0; clear hz0
  have F0 := Lib.hid hF; clear hF
  have X0 := Lib.hid (Below.refl w0.heap.size w0)
  obtain ⟨r1, hr1⟩ : ∃ r, r = isMiB xss := ⟨_, rfl⟩
  have HR1 := Lib.hid hr1; clear hr1
  obtain ⟨r2, hr2⟩ : ∃ r, r = polB u yss := ⟨_, rfl⟩
  have HR2 := Lib.hid hr2; clear hr2
  obtain ⟨o, ho⟩ : ∃ o, o = milO u xss yss := ⟨_, rfl⟩
  have HO := Lib.hid ho
  rw [← ho]
  clear ho
  go_enter Try.func45, Try.ntmps45
  go_wp2_with fail
  rw [← Hw.out, ← Hbe.out]
  have k0 := (F0.out.below X0.out).at_ (b := b) (o := 0) (V := .slice A1 n1 c1) (by simp)
  have k2 := (F0.out.below X0.out).at_ (b := b + 1) (o := 0) (V := .int .i64 u) (by simp)
  have k3 := (F0.out.below X0.out).at_ (b := b + 1) (o := 1) (V := .slice A2 n2 c2) (by simp)
  refine (l04Is_any A1 n1 c1 xss _ H1.out hn1 ht1).mono ?_
  rintro e w1 ⟨rfl, hb1⟩
  rw [← HR1.out]
  have X1 := Lib.hid hb1; clear hb1 k0 k2 k3
  have k0 := (F0.out.below X1.out).at_ (b := b) (o := 0) (V := .slice A1 n1 c1) (by simp)
  have k2 := (F0.out.below X1.out).at_ (b := b + 1) (o := 0) (V := .int .i64 u) (by simp)
  have k3 := (F0.out.below X1.out).at_ (b := b + 1) (o := 1) (V := .slice A2 n2 c2) (by simp)
  cases r1
  · have HV := Lib.hid (HO.out.trans (milO_bad1 HR1.out.symm))
    have q0 := (F0.out.below X1.out).at_ (b := b + 1 + 1) (o := 0) (V := .int .i64 0) (by simp)
    have q1 := (F0.out.below X1.out).at_ (b := b + 1 + 1) (o := 1) (V := .slice none 0 0) (by simp)
    have f0 := (F0.out.below X1.out).fr (b := b + 1 + 1) (o := 0) (V := .int .i64 0) (by simp)
    have f1 := (F0.out.below X1.out).fr (b := b + 1 + 1) (o := 1) (V := .slice none 0 0) (by simp)
    have hres := cells_end q0 q1 (.int .i64 0) (.slice none 0 0)
    go_wp2_with fail
    refine bodyPost_ret (v := .tuple #[.agg #[.int .i64 0, .slice none 0 0], .int .i64 1]) (by simp [results, Try.results45, go_sem, hres.1, hres.2]) rfl ?_
    exact RetNC.bad (by rw [HV.out]) (by rw [HV.out]) (by rw [HV.out]) (Hb0.out.trans (X1.out.mono Hb0.out.size)) (by rw [Hbe.out]; omega)
  · go_wp2_with fail
    refine (l08Is_any u A2 n2 c2 yss _ (rdL_here H2.out X1.out) hn2 ht2).mono ?_
    rintro e w2 ⟨rfl, hb2⟩
    rw [← HR2.out]
    have X2 := Lib.hid (X1.out.trans (hb2.mono X1.out.size)); clear hb2 k0 k2 k3
    have k0 := (F0.out.below X2.out).at_ (b := b) (o := 0) (V := .slice A1 n1 c1) (by simp)
    have k2 := (F0.out.below X2.out).at_ (b := b + 1) (o := 0) (V := .int .i64 u) (by simp)
    have k3 := (F0.out.below X2.out).at_ (b := b + 1) (o := 1) (V := .slice A2 n2 c2) (by simp)
    cases r2
    · have HV := Lib.hid (HO.out.trans (milO_bad2 HR2.out.symm))
      have q0 := (F0.out.below X2.out).at_ (b := b + 1 + 1) (o := 0) (V := .int .i64 0) (by simp)
      have q1 := (F0.out.below X2.out).at_ (b := b + 1 + 1) (o := 1) (V := .slice none 0 0) (by simp)
      have f0 := (F0.out.below X2.out).fr (b := b + 1 + 1) (o := 0) (V := .int .i64 0) (by simp)
      have f1 := (F0.out.below X2.out).fr (b := b + 1 + 1) (o := 1) (V := .slice none 0 0) (by simp)
      have hres := cells_end q0 q1 (.int .i64 0) (.slice none 0 0)
      go_wp2_with fail
      refine bodyPost_ret (v := .tuple #[.agg #[.int .i64 0, .slice none 0 0], .int .i64 1]) (by simp [results, Try.results45, go_sem, hres.1, hres.2]) rfl ?_
      exact RetNC.bad (by rw [HV.out]) (by rw [HV.out]) (by rw [HV.out]) (Hb0.out.trans (X2.out.mono Hb0.out.size)) (by rw [Hbe.out]; omega)
    · have HP2 := Lib.hid (polF_of HR2.out.symm)
      have HS1 := Lib.hid (miF_of HR1.out.symm)
      obtain ⟨d1, hd1⟩ : ∃ d, d = degM xss := ⟨_, rfl⟩
      obtain ⟨d2, hd2⟩ : ∃ d, d = degL yss := ⟨_, rfl⟩
      have E1 := Lib.hid hd1
      have E2 := Lib.hid hd2
      clear hd1 hd2
      have D2 := fun (W : World) (hB : Below w2.heap.size w2 W) => Lib.hid (show Calls Try.prog 78 #[.slice A2 n2 c2] W (RetIb d2 W) from by
        rw [E2.out]
        exact (l08Degree_any A2 n2 c2 _ yss W (rdL_here H2.out (X2.out.trans (hB.mono X2.out.size))) hn2 ht2).mono fun e w' h => ⟨h.1, by rw [h.2]; exact Below.refl _ _⟩)
      have hcase : (Hid (0 < n1) ∧ Hid (0 < n2) ∧ Hid (40 < d1 + d2)) ∨ Hid (n1 = 0) ∨ (Hid (0 < n1) ∧ Hid (n2 = 0)) ∨ (Hid (0 < n1) ∧ Hid (0 < n2) ∧ Hid (d1 + d2 ≤ 40)) := by
        by_cases a2 : n1 = 0
        · exact .inr (.inl (Lib.hid a2))
        · by_cases a3 : n2 = 0
          · exact .inr (.inr (.inl ⟨Lib.hid (by omega), Lib.hid a3⟩))
          · by_cases a4 : d1 + d2 ≤ 40
            · exact .inr (.inr (.inr ⟨Lib.hid (by omega), Lib.hid (by omega), Lib.hid a4⟩))
            · exact .inl ⟨Lib.hid (by omega), Lib.hid (by omega), Lib.hid (by omega)⟩
      have g0 := cell_regrown k0
      have g2 := cell_regrown k2
      have g3 := cell_regrown k3
      rcases hcase with ⟨a2, a3, a4⟩ | hcase
      · have HV := Lib.hid (HO.out.trans (milO_lim HR1.out.symm HR2.out.symm (by rw [HL1.out]; exact a2.out) (by rw [HL2.out]; exact a3.out) (by rw [← E1.out, ← E2.out]; exact a4.out)))
        have t1 : decide ((0 : Int) < n1) = true := decide_eq_true (by have := a2.out; omega)
        have t2 : decide ((0 : Int) < n2) = true := decide_eq_true (by have := a3.out; omega)
        have t3 : decide (0 < n1) = true := decide_eq_true a2.out
        have t4 : decide (0 < n2) = true := decide_eq_true a3.out
        obtain ⟨ad0, A0, n0, c0, x0, rfl, _, hx0, hc0, hr0⟩ := (H1.out.below X2.out).at_ a2.out
        have hc00 : w2.cell? ad0 = some (.slice A0 n0 c0) := by simpa [Addr.add] using hc0
        have hpos : (0 : Int) < (n1 : Int) := by have := a2.out; omega
        have hposn : 0 < n1 := a2.out
        have hh : xss.headD [] = x0 := headD_of hx0.out
        have HN0 := Lib.hid (show n0 ≤ 2000000 from by rw [← hr0.len]; exact Nat.le_trans (len_le_of_total (List.mem_of_getElem? hx0.out)) ht1)
        have b1 := HS1.out.each x0 (List.mem_of_getElem? hx0.out)
        have hd1' : degT x0 = d1 := by rw [E1.out]; unfold degM; rw [hh]
        have HR0 := Lib.hid (hr0.mono X2.out.size)
        have D1 := fun (W : World) (hB : Below w2.heap.size w2 W) => Lib.hid (show Calls Try.prog 105 #[.slice A0 n0 c0] W (RetIb d1 W) from by
          rw [← hd1']
          exact (deg01_any A0 n0 c0 _ x0 W (HR0.out.below (hB.mono (Nat.le_refl _))) b1).mono fun e w' h => ⟨h.1, by rw [h.2]; exact Below.refl _ _⟩)
        have hwd : IntKind.i64.wrap (d1 + d2) = d1 + d2 := by
          have b2 := HP2.out.deg.2
          rw [← E2.out] at b2
          have hs1 : 0 ≤ d1 ∧ d1 ≤ 40 := by rw [E1.out]; exact HS1.out.bound (List.mem_of_getElem? hx0.out)
          rw [IntKind.wrap_i64]; omega
        have g4 := cell_regrown hc00
        clear hh hx0 hc0 hr0 b1 hd1'
        have hl : decide (40 < d1 + d2) = true := decide_eq_true a4.out
        go_wp2_with fail
        refine wp_region_quiet_below (by kernel_rfl) (by kernel_rfl) ?_
        repeat (go_big_quiet_step ((first | (go_at_call 105; exact Calls.regrown_of ((D1 _ (below_regrown _ _ _)).out)) | (go_at_call 78; exact Calls.regrown_of ((D2 _ (below_regrown _ _ _)).out)))))
        refine wpQuiet_nil ?_
        intro _ hw'
        obtain ⟨⟨dq, osq⟩, hw''⟩ := hw'
        subst hw''
        have hb3 := below_regrown w2 dq osq
        obtain ⟨w3, hwq⟩ : ∃ W, W = Sort.grow (redrawn w2 dq) osq := ⟨_, rfl⟩
        rw [← hwq] at hb3 ⊢
        clear hwq
        have X3 := Lib.hid (X2.out.trans (hb3.mono X2.out.size))
        clear g0 g2 g3 g4 k0 k2 k3 hb3 D1 D2 t1 t2 t3 t4 hwd hpos hposn hc00
        have q0 := (F0.out.below X3.out).at_ (b := b + 1 + 1) (o := 0) (V := .int .i64 0) (by simp)
        have q1 := (F0.out.below X3.out).at_ (b := b + 1 + 1) (o := 1) (V := .slice none 0 0) (by simp)
        have f0 := (F0.out.below X3.out).fr (b := b + 1 + 1) (o := 0) (V := .int .i64 0) (by simp)
        have f1 := (F0.out.below X3.out).fr (b := b + 1 + 1) (o := 1) (V := .slice none 0 0) (by simp)
        have hres := cells_end q0 q1 (.int .i64 0) (.slice none 0 0)
        go_wp2_with fail
        refine bodyPost_ret (v := .tuple #[.agg #[.int .i64 0, .slice none 0 0], .int .i64 3]) (by simp [results, Try.results45, go_sem, hres.1, hres.2]) rfl ?_
        exact RetNC.bad (by rw [HV.out]) (by rw [HV.out]) (by rw [HV.out]) (Hb0.out.trans (X3.out.mono Hb0.out.size)) (by rw [Hbe.out]; omega)
      · have HNL := Lib.hid (show xss.length = 0 ∨ yss.length = 0 ∨ degM xss + degL yss ≤ 40 from by
          rcases hcase with a | ⟨_, a⟩ | ⟨_, _, a⟩
          · exact .inl (by rw [HL1.out]; exact a.out)
          · exact .inr (.inl (by rw [HL2.out]; exact a.out))
          · exact .inr (.inr (by rw [← E1.out, ← E2.out]; exact a.out)))
        have HV := Lib.hid (HO.out.trans (milO_ok HR1.out.symm HR2.out.symm HNL.out))
        obtain ⟨k, hk⟩ : ∃ k : Nat, u = k := ⟨u.toNat, by have := HP2.out.lo; omega⟩
        have hk4 : k ≤ 4 := by have := HP2.out.hi; omega
        have hk1 : 1 ≤ k := by have := HP2.out.lo; omega
        obtain ⟨md, mo⟩ := milO_okW HR1.out.symm HR2.out.symm hk HNL.out
        obtain ⟨d, hd⟩ : ∃ d, d = degZ yss := ⟨_, rfl⟩
        rw [← hd] at md mo
        have MD := Lib.hid md
        have MO := Lib.hid mo
        have HA2 := Lib.hid HP2.out.asc
        have L1 := Lib.hid (show n1 ≤ 2000 from by rw [← HL1.out]; exact HS1.out.len)
        have L2 := Lib.hid (show n2 ≤ 2000 from by rw [← HL2.out]; exact HP2.out.len)
        clear hd md mo hk
        obtain ⟨s, hs⟩ : ∃ s, s = oddL (milP xss yss) := ⟨_, rfl⟩
        have hsl : s.length ≤ 16777216 := by rw [hs]; exact oddL_small (milP_mono MD.out MO.out) hk4
        have HS := fun (W : World) (hB : Below w0.heap.size w0 W) => Lib.hid (l08Milnor_any A1 A2 n1 c1 n2 c2 k d xss yss W (rdL_here H1.out hB) (rdL_here H2.out hB) MD.out HA2.out MO.out hk4 L1.out L2.out hk1)
        rw [← hs] at HS HV
        obtain ⟨l, hl⟩ : ∃ l, l = s.length := ⟨_, rfl⟩
        rw [← hl] at HS hsl
        have HLs := Lib.hid hl
        clear hs hl
        rcases hcase with a2 | ⟨a2, a3⟩ | ⟨a2, a3, a4⟩
        have t1 : decide ((0 : Int) < n1) = false := decide_eq_false (by have := a2.out; omega)
        have t3 : decide (0 < n1) = false := decide_eq_false (by have := a2.out; omega)
        go_wp2_with fail
        refine wp_region_quiet_below (by kernel_rfl) (by kernel_rfl) ?_
        repeat (go_big_quiet_step (fail))
        refine wpQuiet_nil ?_
        intro _ hw'
        obtain ⟨⟨dq, osq⟩, hw''⟩ := hw'
        subst hw''
        have hb3 := below_regrown w2 dq osq
        obtain ⟨w3, hwq⟩ : ∃ W, W = Sort.grow (redrawn w2 dq) osq := ⟨_, rfl⟩
        rw [← hwq] at hb3 ⊢
        clear hwq
        clear t1 t3
        rotate_left
        have t1 : decide ((0 : Int) < n1) = true := decide_eq_true (by have := a2.out; omega)
        have t2 : decide ((0 : Int) < n2) = false := decide_eq_false (by have := a3.out; omega)
        have t3 : decide (0 < n1) = true := decide_eq_true a2.out
        have t4 : decide (0 < n2) = false := decide_eq_false (by have := a3.out; omega)
        go_wp2_with fail
        refine wp_region_quiet_below (by kernel_rfl) (by kernel_rfl) ?_
        repeat (go_big_quiet_step (fail))
        refine wpQuiet_nil ?_
        intro _ hw'
        obtain ⟨⟨dq, osq⟩, hw''⟩ := hw'
        subst hw''
        have hb3 := below_regrown w2 dq osq
        obtain ⟨w3, hwq⟩ : ∃ W, W = Sort.grow (redrawn w2 dq) osq := ⟨_, rfl⟩
        rw [← hwq] at hb3 ⊢
        clear hwq
        clear t1 t2 t3 t4
        rotate_left
        have t1 : decide ((0 : Int) < n1) = true := decide_eq_true (by have := a2.out; omega)
        have t2 : decide ((0 : Int) < n2) = true := decide_eq_true (by have := a3.out; omega)
        have t3 : decide (0 < n1) = true := decide_eq_true a2.out
        have t4 : decide (0 < n2) = true := decide_eq_true a3.out
        obtain ⟨ad0, A0, n0, c0, x0, rfl, _, hx0, hc0, hr0⟩ := (H1.out.below X2.out).at_ a2.out
        have hc00 : w2.cell? ad0 = some (.slice A0 n0 c0) := by simpa [Addr.add] using hc0
        have hpos : (0 : Int) < (n1 : Int) := by have := a2.out; omega
        have hposn : 0 < n1 := a2.out
        have hh : xss.headD [] = x0 := headD_of hx0.out
        have HN0 := Lib.hid (show n0 ≤ 2000000 from by rw [← hr0.len]; exact Nat.le_trans (len_le_of_total (List.mem_of_getElem? hx0.out)) ht1)
        have b1 := HS1.out.each x0 (List.mem_of_getElem? hx0.out)
        have hd1' : degT x0 = d1 := by rw [E1.out]; unfold degM; rw [hh]
        have HR0 := Lib.hid (hr0.mono X2.out.size)
        have D1 := fun (W : World) (hB : Below w2.heap.size w2 W) => Lib.hid (show Calls Try.prog 105 #[.slice A0 n0 c0] W (RetIb d1 W) from by
          rw [← hd1']
          exact (deg01_any A0 n0 c0 _ x0 W (HR0.out.below (hB.mono (Nat.le_refl _))) b1).mono fun e w' h => ⟨h.1, by rw [h.2]; exact Below.refl _ _⟩)
        have hwd : IntKind.i64.wrap (d1 + d2) = d1 + d2 := by
          have b2 := HP2.out.deg.2
          rw [← E2.out] at b2
          have hs1 : 0 ≤ d1 ∧ d1 ≤ 40 := by rw [E1.out]; exact HS1.out.bound (List.mem_of_getElem? hx0.out)
          rw [IntKind.wrap_i64]; omega
        have g4 := cell_regrown hc00
        clear hh hx0 hc0 hr0 b1 hd1'
        have hl : decide (40 < d1 + d2) = false := decide_eq_false (Int.not_lt.2 a4.out)
        go_wp2_with fail
        refine wp_region_quiet_below (by kernel_rfl) (by kernel_rfl) ?_
        repeat (go_big_quiet_step ((first | (go_at_call 105; exact Calls.regrown_of ((D1 _ (below_regrown _ _ _)).out)) | (go_at_call 78; exact Calls.regrown_of ((D2 _ (below_regrown _ _ _)).out)))))
        refine wpQuiet_nil ?_
        intro _ hw'
        obtain ⟨⟨dq, osq⟩, hw''⟩ := hw'
        subst hw''
        have hb3 := below_regrown w2 dq osq
        obtain ⟨w3, hwq⟩ : ∃ W, W = Sort.grow (redrawn w2 dq) osq := ⟨_, rfl⟩
        rw [← hwq] at hb3 ⊢
        clear hwq
        clear t1 t2 t3 t4 hwd hpos hposn g4 hc00 hl D1 HR0
        generalize hA1 : some ad0 = A1 at F0 H1 HS Hw k0 g0 ⊢
        clear hA1
        all_goals
          have X3 := Lib.hid (X2.out.trans (hb3.mono X2.out.size))
          clear g0 g2 g3 k0 k2 k3 hb3 D2
          obtain ⟨xr, fA, nr, fc, kr, HF, HR1x, HR2x, HR3x, HR4x⟩ := fit_cases (v := u) HV.out HLs.out (by omega)
          have Bd := Lib.hid (show Below w0.heap.size w0 w3.drew from below_drewN X3.out 1)
          have C2 := Lib.hid (F0.out.below X3.out)
          have Cd := Lib.hid (show Cells _ w3.drew from C2.out.drewN 1)
          have BdA := Lib.hid (show Below w0.heap.size w0 (w3.alloc (.cells #[.int .i64 0, .slice none 0 0] 28)).drew from below_drewN (X3.out.alloc X3.out.size _) 1)
          have CdA := Lib.hid (show Cells _ (w3.alloc (.cells #[.int .i64 0, .slice none 0 0] 28)).drew from (C2.out.below ((Below.refl _ _).alloc (Nat.le_refl _) (.cells #[.int .i64 0, .slice none 0 0] 28))).drewN 1)
          have NdA := Lib.hid (show Cells [(w3.heap.size, 0, .int .i64 0), (w3.heap.size, 1, .slice none 0 0)] (w3.alloc (.cells #[.int .i64 0, .slice none 0 0] 28)).drew from (Cells.nil.alloc2 (.int .i64 0) (.slice none 0 0) 28 (w := w3) rfl).drewN 1)
          have zl2 : b + 1 < w3.heap.size := by have := X3.out.size; have := HZ.out; omega
          have zA : (w3.alloc (.cells #[.int .i64 0, .slice none 0 0] 28)).drew.heap.size = w3.heap.size + 1 := by show (w3.alloc (.cells #[.int .i64 0, .slice none 0 0] 28)).heap.size = _; simp
          have kd0 := Cd.out.at_ (b := b) (o := 0) (V := .slice A1 n1 c1) (by simp)
          have kd1 := Cd.out.at_ (b := b + 1) (o := 0) (V := .int .i64 u) (by simp)
          have kd2 := Cd.out.at_ (b := b + 1) (o := 1) (V := .slice A2 n2 c2) (by simp)
          have ke0 := CdA.out.at_ (b := b) (o := 0) (V := .slice A1 n1 c1) (by simp)
          have ke1 := CdA.out.at_ (b := b + 1) (o := 0) (V := .int .i64 u) (by simp)
          have ke2 := CdA.out.at_ (b := b + 1) (o := 1) (V := .slice A2 n2 c2) (by simp)
          go_wp2_with fail
          go_region_held3 (fun w' => w'.cell? ⟨b, 0, none⟩ = some (.slice A1 n1 c1) ∧ w'.cell? ⟨b + 1, 0, none⟩ = some (.int .i64 u) ∧ w'.cell? ⟨b + 1, 1, none⟩ = some (.slice A2 n2 c2)) (first | (with_reducible exact ⟨kd0, kd1, kd2⟩) | (with_reducible exact ⟨ke0, ke1, ke2⟩) | (with_reducible exact ⟨ka0, ka1, ka2⟩) | (with_reducible exact ⟨kf0, kf1, kf2⟩) | (with_reducible exact ⟨kb0, kb1, kb2⟩) | (with_reducible exact ⟨kg0, kg1, kg2⟩) | (with_reducible exact ⟨kh0, kh1, kh2⟩) | (with_reducible exact ⟨two_far mm0 kb0, two_far mm1 kb1, two_far mm1 kb2⟩))
            (first
              | (go_at_call 106
                 refine (HS _ (by first | exact Bd.out | exact BdA.out)).out.mono ?_
                 rintro e w4 ⟨A5, c5, rfl, ho5, hb5⟩
                 have B4 : Hid (Below w0.heap.size w0 w4) := by
                   first
                     | exact Lib.hid (Bd.out.trans (hb5.mono Bd.out.size))
                     | exact Lib.hid (BdA.out.trans (hb5.mono BdA.out.size))
                 have M4 : Hid (OwnM w4 w3.heap.size w4.heap.size A5 l c5 s) := by
                   first
                     | exact Lib.hid (ho5.m (Nat.le_refl _))
                     | exact Lib.hid ((ho5.m (Nat.le_refl _)).mono (Nat.le_trans (Nat.le_succ _) (Nat.le_of_eq zA.symm)) (Nat.le_refl _))
                 first
                   | have M4s : Hid (OwnM w4 (w3.heap.size + 1) w4.heap.size A5 l c5 s) := Lib.hid ((ho5.m (Nat.le_refl _)).mono (Nat.le_of_eq zA.symm) (Nat.le_refl _))
                   | skip
                 have C4 := Lib.hid (F0.out.below B4.out)
                 have B4A := Lib.hid (show Below w0.heap.size w0 (w4.alloc (.cells #[.int .i64 0, .slice none 0 0] 28)) from B4.out.alloc B4.out.size _)
                 have C4A := Lib.hid (C4.out.below ((Below.refl _ _).alloc (Nat.le_refl _) (.cells #[.int .i64 0, .slice none 0 0] 28)))
                 have M4A := Lib.hid (M4.out.below ((Below.refl _ _).alloc (Nat.le_refl _) (.cells #[.int .i64 0, .slice none 0 0] 28)))
                 have N4A := Lib.hid (Cells.nil.alloc2 (.int .i64 0) (.slice none 0 0) 28 (w := w4) rfl)
                 first
                   | have N4 := Lib.hid (NdA.out.below hb5)
                   | skip
                 have ka0 := C4.out.at_ (b := b) (o := 0) (V := .slice A1 n1 c1) (by simp)
                 have ka1 := C4.out.at_ (b := b + 1) (o := 0) (V := .int .i64 u) (by simp)
                 have ka2 := C4.out.at_ (b := b + 1) (o := 1) (V := .slice A2 n2 c2) (by simp)
                 have kf0 := C4A.out.at_ (b := b) (o := 0) (V := .slice A1 n1 c1) (by simp)
                 have kf1 := C4A.out.at_ (b := b + 1) (o := 0) (V := .int .i64 u) (by simp)
                 have kf2 := C4A.out.at_ (b := b + 1) (o := 1) (V := .slice A2 n2 c2) (by simp)
                 clear ho5 hb5)
              | (go_at_call 88
                 refine (HF _ _ _).out.mono ?_
                 rintro e w5 ⟨rfl, hb6⟩
                 have B5 : Hid (Below w0.heap.size w0 w5) := by
                   first
                     | exact Lib.hid (B4.out.trans (hb6.mono B4.out.size))
                     | exact Lib.hid (B4A.out.trans (hb6.mono B4A.out.size))
                 have M5 : Hid (OwnM w5 w3.heap.size w4.heap.size A5 l c5 s) := by
                   first
                     | exact Lib.hid (M4.out.below hb6)
                     | exact Lib.hid (M4A.out.below hb6)
                 have Z5 : w4.heap.size ≤ w5.heap.size := by
                   first
                     | exact hb6.size
                     | exact Nat.le_trans (by simp) hb6.size
                 first
                   | (have N5 := Lib.hid (N4.out.below hb6)
                      have M5s : Hid (OwnM w5 (w3.heap.size + 1) w4.heap.size A5 l c5 s) := Lib.hid (M4s.out.below hb6)
                      have n0 := N5.out.at_ (b := w3.heap.size) (o := 0) (V := .int .i64 0) (by simp)
                      have n1' := N5.out.at_ (b := w3.heap.size) (o := 1) (V := .slice none 0 0) (by simp)
                      have nf0 := N5.out.fr (b := w3.heap.size) (o := 0) (V := .int .i64 0) (by simp)
                      have nf1 := N5.out.fr (b := w3.heap.size) (o := 1) (V := .slice none 0 0) (by simp)
                      have mm0 : w3.heap.size ≠ b := by have := B4.out.size; have := HZ.out; omega
                      have mm1 : w3.heap.size ≠ b + 1 := by have := B4.out.size; have := HZ.out; omega)
                   | (have N5 := Lib.hid (N4A.out.below hb6)
                      have n0 := N5.out.at_ (b := w4.heap.size) (o := 0) (V := .int .i64 0) (by simp)
                      have n1' := N5.out.at_ (b := w4.heap.size) (o := 1) (V := .slice none 0 0) (by simp)
                      have nf0 := N5.out.fr (b := w4.heap.size) (o := 0) (V := .int .i64 0) (by simp)
                      have nf1 := N5.out.fr (b := w4.heap.size) (o := 1) (V := .slice none 0 0) (by simp)
                      have mm0 : w4.heap.size ≠ b := by have := B4.out.size; have := HZ.out; omega
                      have mm1 : w4.heap.size ≠ b + 1 := by have := B4.out.size; have := HZ.out; omega)
                   | skip
                 have C5 := Lib.hid (F0.out.below B5.out)
                 have C5A := Lib.hid (C5.out.below ((Below.refl _ _).alloc (Nat.le_refl _) (.cells #[.int .i64 0, .slice none 0 0] 28)))
                 have C5B := Lib.hid (C5.out.below ((Below.refl _ _).alloc (Nat.le_refl _) (.cells #[.int .i64 xr, .slice (fA A5) nr (fc c5)] 28)))
                 have kb0 := C5.out.at_ (b := b) (o := 0) (V := .slice A1 n1 c1) (by simp)
                 have kb1 := C5.out.at_ (b := b + 1) (o := 0) (V := .int .i64 u) (by simp)
                 have kb2 := C5.out.at_ (b := b + 1) (o := 1) (V := .slice A2 n2 c2) (by simp)
                 have kg0 := C5A.out.at_ (b := b) (o := 0) (V := .slice A1 n1 c1) (by simp)
                 have kg1 := C5A.out.at_ (b := b + 1) (o := 0) (V := .int .i64 u) (by simp)
                 have kg2 := C5A.out.at_ (b := b + 1) (o := 1) (V := .slice A2 n2 c2) (by simp)
                 have kh0 := C5B.out.at_ (b := b) (o := 0) (V := .slice A1 n1 c1) (by simp)
                 have kh1 := C5B.out.at_ (b := b + 1) (o := 0) (V := .int .i64 u) (by simp)
                 have kh2 := C5B.out.at_ (b := b + 1) (o := 1) (V := .slice A2 n2 c2) (by simp)
                 clear hb6))
          all_goals
            first
              | (obtain ⟨wz, hwz⟩ : ∃ W, W = w5.alloc (.cells #[.int .i64 xr, .slice (fA A5) nr (fc c5)] 28) := ⟨_, rfl⟩
                 rw [← hwz]
                 have XZ := Lib.hid (show Below w0.heap.size w0 wz from by rw [hwz]; exact B5.out.alloc B5.out.size _)
                 have MZ := Lib.hid (show OwnM wz w0.heap.size w4.heap.size A5 l c5 s from by rw [hwz]; exact (M5.out.below ((Below.refl _ _).alloc (Nat.le_refl _) _)).mono X3.out.size (Nat.le_refl _))
                 have hz4 : w4.heap.size ≤ wz.heap.size := by rw [hwz]; simp; omega
                 have y0 : wz.cell? ⟨w5.heap.size, 0, none⟩ = some (.int .i64 xr) := by rw [hwz]; exact new_at rfl rfl
                 have y1 : wz.cell? ⟨w5.heap.size, 1, none⟩ = some (.slice (fA A5) nr (fc c5)) := by rw [hwz]; exact new_at rfl rfl
                 clear hwz)
              | (obtain ⟨wz, hwz⟩ : ∃ W, W = (w5.setCell ⟨w4.heap.size, 0, none⟩ (.int .i64 xr)).setCell ⟨w4.heap.size, 1, none⟩ (.slice (fA A5) nr (fc c5)) := ⟨_, rfl⟩
                 rw [← hwz]
                 have XZ := Lib.hid (show Below w0.heap.size w0 wz from by rw [hwz]; exact (B5.out.setCell (p := ⟨w4.heap.size, 0, none⟩) B4.out.size _).setCell (p := ⟨w4.heap.size, 1, none⟩) B4.out.size _)
                 have MZ := Lib.hid (show OwnM wz w0.heap.size w4.heap.size A5 l c5 s from by rw [hwz]; exact (M5.out.two Z5 (.inr (Nat.le_refl _))).mono X3.out.size (Nat.le_refl _))
                 have hz4 : w4.heap.size ≤ wz.heap.size := by rw [hwz]; simp [World.setCell]; omega
                 have y0 : wz.cell? ⟨w4.heap.size, 0, none⟩ = some (.int .i64 xr) := by rw [hwz]; exact (cells_end n0 n1' (.int .i64 xr) (.slice (fA A5) nr (fc c5))).1
                 have y1 : wz.cell? ⟨w4.heap.size, 1, none⟩ = some (.slice (fA A5) nr (fc c5)) := by rw [hwz]; exact (cells_end n0 n1' (.int .i64 xr) (.slice (fA A5) nr (fc c5))).2
                 clear hwz)
              | (obtain ⟨wz, hwz⟩ : ∃ W, W = (w5.setCell ⟨w3.heap.size, 0, none⟩ (.int .i64 xr)).setCell ⟨w3.heap.size, 1, none⟩ (.slice (fA A5) nr (fc c5)) := ⟨_, rfl⟩
                 rw [← hwz]
                 have XZ := Lib.hid (show Below w0.heap.size w0 wz from by rw [hwz]; exact (B5.out.setCell (p := ⟨w3.heap.size, 0, none⟩) X3.out.size _).setCell (p := ⟨w3.heap.size, 1, none⟩) X3.out.size _)
                 have MZ := Lib.hid (show OwnM wz w0.heap.size w4.heap.size A5 l c5 s from by rw [hwz]; exact (M5s.out.two Z5 (.inl (Nat.lt_succ_self _))).mono (Nat.le_succ_of_le X3.out.size) (Nat.le_refl _))
                 have hz4 : w4.heap.size ≤ wz.heap.size := by rw [hwz]; simp [World.setCell]; omega
                 have y0 : wz.cell? ⟨w3.heap.size, 0, none⟩ = some (.int .i64 xr) := by rw [hwz]; exact (cells_end n0 n1' (.int .i64 xr) (.slice (fA A5) nr (fc c5))).1
                 have y1 : wz.cell? ⟨w3.heap.size, 1, none⟩ = some (.slice (fA A5) nr (fc c5)) := by rw [hwz]; exact (cells_end n0 n1' (.int .i64 xr) (.slice (fA A5) nr (fc c5))).2
                 clear hwz)
            have q0 := (F0.out.below XZ.out).at_ (b := b + 1 + 1) (o := 0) (V := .int .i64 0) (by simp)
            have q1 := (F0.out.below XZ.out).at_ (b := b + 1 + 1) (o := 1) (V := .slice none 0 0) (by simp)
            have f0 := (F0.out.below XZ.out).fr (b := b + 1 + 1) (o := 0) (V := .int .i64 0) (by simp)
            have f1 := (F0.out.below XZ.out).fr (b := b + 1 + 1) (o := 1) (V := .slice none 0 0) (by simp)
            have hres := cells_end q0 q1 (.int .i64 xr) (.slice (fA A5) nr (fc c5))
            go_wp2_with fail
            refine bodyPost_ret (v := .tuple #[.agg #[.int .i64 xr, .slice (fA A5) nr (fc c5)], .int .i64 kr]) (by simp [results, Try.results45, go_sem, hres.1, hres.2]) rfl ?_
            exact RetNC.mk (V := w0.heap.size) HR1x.out HR2x.out rfl HR3x.out (Hb0.out.trans (XZ.out.mono Hb0.out.size)) (by rw [Hbe.out]; omega) (by rw [HZ.out]; omega) (HR4x.out _ _ _ _ _ MZ.out) hz4
end Go.Proofs.Ytejlkobieohgfaa
