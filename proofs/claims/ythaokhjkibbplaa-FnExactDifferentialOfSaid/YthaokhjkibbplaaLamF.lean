/- lambdaForm: the admissible form of words. -/
import Derived.Test.YthaokhjkibbplaaLamB2
namespace Go.Proofs.Ythaokhjkibbplaa
open Go.RowKit
set_option linter.unusedVariables false

theorem okW_drop {w : List Int} (h : okW w) (k : Nat) : okW (w.drop k) := by
  obtain ⟨h1, h2, h3⟩ := h
  refine ⟨by rw [List.length_drop]; omega, fun x hx => h2 x (List.mem_of_mem_drop hx), ?_⟩
  have e : sumZ w = sumZ (w.take k) + sumZ (w.drop k) := by rw [← sumZ_append, List.take_append_drop]
  have : 0 ≤ sumZ (w.take k) := sumZ_nonneg fun x hx => h2 x (List.mem_of_mem_take hx)
  omega
theorem nf_len {w : List Int} (h : okW w) : (oddL (nf w)).length ≤ 75582 := by
  refine asc_len (oddL_asc _) fun x hx => ?_
  obtain ⟨h1, h2, h3, _⟩ := nf_word (oddL_mem hx) h.2.1
  exact ⟨by rw [h1]; exact h.1, h3, by rw [h2]; exact h.2.2⟩
theorem own_nil (w : World) (K : Nat) (hK : K ≤ w.heap.size) : OwnS (w.alloc (.cells #[] 2)) K (some ⟨w.heap.size, 0, none⟩) 0 0 [] := own_empty w K hK
theorem StL.oneS {w0 w : World} {B n c : Nat} {A : Option Addr} {xs : List Int} (h : OwnS w B A n c xs) (hb : Below B w0 w) (hB : B ≤ w.heap.size) : StL w0 B (w.alloc (.cells #[.slice A n c] 40)) (w.alloc (.cells #[.slice A n c] 40)).heap.size (some ⟨w.heap.size, 0, Option.none⟩) 1 1 [xs] :=
  ⟨(ownL_oneS h hB).mono (Nat.le_refl _) (by simp), hb.alloc hB _, Nat.le_trans hB (by simp), Nat.le_refl _⟩

theorem lamForm_any (A : Option Addr) (n c B : Nat) (xss : List (List Int)) (w : World) (h : RdL w B A n c xss) (hB : B ≤ w.heap.size) (hn : n ≤ 100000) (hw : ∀ x ∈ xss, okW x) :
    Calls Try.prog 42 #[.slice A n c] w (RetL (formL xss).length (formL xss) w) := by
  have Hl := Lib.hid h.len
  have HW := Lib.hid hw; clear hw
  have hst := StL.start (Below.refl w.heap.size w) (Nat.le_refl _)
  obtain ⟨V, hV⟩ : ∃ V, V = w.heap.size := ⟨_, rfl⟩
  rw [← hV] at hst
  have H := Lib.hid (h.mono (show B ≤ V by rw [hV]; exact hB)); clear h
  have HVe := Lib.hid hV; clear hV
  have HS := Lib.hid hst.here; clear hst
  go_enter Try.func42, Try.ntmps42
  go_wp2_with fail
  rw [← HVe.out]
  go_loopw [3, 14] (fun o i wr => ∃ (k l' c' K : Nat) (A' : Option Addr) (acc : List (List Int)), k ≤ n ∧ i = .int .i64 k ∧ o = .slice A' l' c' ∧ l' ≤ k * 75582 ∧ Hid (acc.length = l') ∧ Hid (SameSum acc ((xss.take k).flatMap nf)) ∧ Hid (∀ u ∈ acc, u.length ≤ 7) ∧ Hid (StL w V wr K A' l' c' acc)) (fun _ i _ => n - (intOf i).toNat)
  case atStart => exact ⟨0, 0, 0, _, _, [], Nat.zero_le _, rfl, rfl, Nat.zero_le _, Lib.hid rfl, Lib.hid (by simpa using SameSum.refl _), Lib.hid (by simp), by rw [HVe.out]; rw [HVe.out] at HS; exact HS⟩
  case round =>
    clear HS
    obtain ⟨k, l', c', K, A', acc, hk, rfl, rfl, hlk, HL', HA, HU, HS⟩ := hrel
    by_cases hlt : k < n
    · obtain ⟨ad, A1, n1, c1, x, rfl, _, hx, hc, hr⟩ := (H.out.below HS.out.bel).at_ hlt
      have hok := HW.out x (List.mem_of_getElem? hx.out)
      have Hok := Lib.hid hok
      have hn1e : x.length = n1 := hr.len
      have hn1 : n1 ≤ 7 := by rw [← hn1e]; exact hok.1
      have HN1 := Lib.hid hn1e
      have HR := Lib.hid hr
      have hlk2 : l' + 75582 ≤ (k + 1) * 75582 := by rw [Nat.add_mul, Nat.one_mul]; exact Nat.add_le_add_right hlk _
      have hlb : l' ≤ 7558200000 := Nat.le_trans hlk (Nat.le_trans (Nat.mul_le_mul_right _ (show k ≤ 100000 by omega)) (by omega))
      clear hok hr hn1e
      obtain ⟨wo, hwo⟩ : ∃ wo : World, wo = wr := ⟨_, rfl⟩
      subst hwo
      obtain ⟨So, hSo⟩ : ∃ s, s = wo.heap.size := ⟨_, rfl⟩
      have HSo := Lib.hid hSo
      have hp0 := StL.oneS (w0 := wo) (B := wo.heap.size) (own_nil wo wo.heap.size (Nat.le_refl _)) ((Below.refl _ _).alloc (Nat.le_refl _) _) (by simp)
      rw [show (wo.alloc (.cells #[] 2)).heap.size = wo.heap.size + 1 from by simp, ← hSo] at hp0
      have HP0 := Lib.hid hp0
      clear hp0
      clear hSo
      go_wp2_with fail
      rw [← HSo.out]
      go_loopw [6, 7] (fun p u wr => ∃ (t : Int) (Ap : Option Addr) (lp cp Kp : Nat) (P : List (List Int)), -1 ≤ t ∧ t < n1 ∧ u = .int .i64 t ∧ p = .slice Ap lp cp ∧ lp ≤ 75582 ∧ Hid (P.length = lp) ∧ Hid (P = oddL (nf (x.drop (t + 1).toNat))) ∧ Hid (StL wo So wr Kp Ap lp cp P)) (fun _ u _ => (intOf u + 1).toNat)
      case atStart =>
        exact ⟨(n1 : Int) - 1, _, 1, 1, _, [[]], by omega, by omega, rfl, rfl, by omega, Lib.hid rfl, Lib.hid (by
          rw [List.drop_of_length_le (by rw [HN1.out]; omega)]
          simp [nf, oddL_single]), HP0⟩
      case round =>
        obtain ⟨t, Ap, lp, cp, Kp, P, ht1, ht2, rfl, rfl, hlp, HPl, HP, HPS⟩ := hrel
        by_cases ht : 0 ≤ t
        · obtain ⟨i, rfl⟩ := Int.eq_ofNat_of_zero_le ht
          have hin : i < n1 := by omega
          have hii : ((i : Int) + 1).toNat = i + 1 := by omega
          obtain ⟨ad2, a, had2, _, ha, hca⟩ := (HR.out.below (HPS.out.bel.mono (by rw [HSo.out]; exact HS.out.size))).at_ hin
          subst had2
          have hxd : x.drop i = a :: x.drop (i + 1) := by
            obtain ⟨h1, e1⟩ := List.getElem?_eq_some_iff.1 ha.out
            rw [List.drop_eq_getElem_cons h1, e1]
          have hokd := okW_drop Hok.out i
          rw [hxd] at hokd
          have hok2 := okW_drop Hok.out (i + 1)
          have ha0 : 0 ≤ a := hokd.2.1 a (by simp)
          have hP2 : Hid (P = oddL (nf (x.drop (i + 1)))) := Lib.hid (by have := HP.out; rw [hii] at this; exact this)
          have HPW : Hid (∀ u ∈ P, u.length ≤ 6 ∧ a + sumZ u ≤ 11 ∧ nonN u ∧ admB u = true) := Lib.hid (fun u hu => by
            rw [hP2.out] at hu
            obtain ⟨h1, h2, h3, h4⟩ := nf_word (oddL_mem hu) hok2.2.1
            have h5 := hokd.1
            have h6 := hokd.2.2
            simp only [List.length_cons, sumZ] at h5 h6
            exact ⟨by omega, by rw [h2]; exact h6, h3, h4⟩)
          have Hxd : Hid (oddL (nf (x.drop i)) = oddL (befS F a P)) := Lib.hid (by
            rw [hxd, nf, hP2.out]
            exact oddL_congr (befS_same (oddL_same _).symm))
          have Hhii := Lib.hid hii
          clear hxd hokd hok2 ht hii
          obtain ⟨wp, hwp⟩ : ∃ wp : World, wp = wr := ⟨_, rfl⟩
          subst hwp
          have hq := StL.start (Below.refl wp.heap.size wp) (Nat.le_refl _)
          obtain ⟨Sp, hSp⟩ : ∃ s, s = wp.heap.size := ⟨_, rfl⟩
          rw [← hSp] at hq
          have HSp := Lib.hid hSp
          clear hSp
          have HQ0 := Lib.hid hq.here; clear hq
          have HPr := Lib.hid (show RdL wp Sp Ap lp cp P by rw [HSp.out]; exact HPS.out.rd)
          have HWr := Lib.hid (show RdS wp Sp (some ad2) n1 c1 x from (HR.out.below (HPS.out.bel.mono (by rw [HSo.out]; exact HS.out.size))).mono (by rw [HSp.out]; exact Nat.le_trans HS.out.size (Nat.le_trans (Nat.le_of_eq HSo.out.symm) HPS.out.size)))
          clear hca
          go_wp2_with fail
          rw [← HSp.out]
          go_loopw [8, 30] (fun q v wr => ∃ (j l2 c2 K2 : Nat) (A2 : Option Addr) (ac : List (List Int)), j ≤ lp ∧ v = .int .i64 j ∧ q = .slice A2 l2 c2 ∧ l2 ≤ j * 64 ∧ Hid (ac.length = l2) ∧ Hid (SameSum ac ((P.take j).flatMap (bef F a))) ∧ Hid (∀ u ∈ ac, u.length ≤ 7) ∧ Hid (StL wp Sp wr K2 A2 l2 c2 ac)) (fun _ v _ => lp - (intOf v).toNat)
          case atStart => exact ⟨0, 0, 0, _, _, [], Nat.zero_le _, rfl, rfl, Nat.zero_le _, Lib.hid rfl, Lib.hid (by simpa using SameSum.refl _), Lib.hid (by simp), HQ0⟩
          case round =>
            clear HQ0
            obtain ⟨j, l2, c2, K2, A2, ac, hj, rfl, rfl, hl2, HL2, HA2, HU2, HQ⟩ := hrel
            by_cases hjl : j < lp
            · obtain ⟨ad3, A3, n3, c3, u, rfl, _, hu, hc3, hr3⟩ := (HPr.out.below HQ.out.bel).at_ hjl
              obtain ⟨ad4, a2, e4, _, ha2, hc4⟩ := (HWr.out.below HQ.out.bel).at_ hin
              obtain rfl : ad2 = ad4 := by simpa using e4
              obtain rfl : a = a2 := by have h1 := ha.out; rw [ha2.out] at h1; simpa using h1.symm
              obtain ⟨u1, u2, u3, u4⟩ := HPW.out u (List.mem_of_getElem? hu.out)
              have hu0 := sumZ_nonneg u3
              have Hr3 := Lib.hid (lamBefore_any (meas a u + 1) a A3 n3 c3 Sp u _ (Nat.lt_succ_self _) ha0 u3 u4 u2 u1 hr3 HQ.out.size)
              have hbl := bef_len (a := a) (y := u) u4 ha0 u1 u3 u2
              have hol := oddL_len (bef F a u)
              have HB3 : Hid (∀ v ∈ oddL (bef F a u), v.length ≤ 7) := Lib.hid (fun v hv => by
                have := (bef_word (oddL_mem hv) ha0 u3).1
                omega)
              have HB4 : Hid (SameSum (oddL (bef F a u)) (bef F a u)) := Lib.hid (oddL_same _)
              obtain ⟨us, hus⟩ : ∃ s, s = oddL (bef F a u) := ⟨_, rfl⟩
              rw [← hus] at Hr3 HB3 HB4 hol
              obtain ⟨l3, hl3⟩ : ∃ l, l = us.length := ⟨_, rfl⟩
              rw [← hl3] at Hr3 hol
              have HL3 := Lib.hid hl3
              have hl364 : l3 ≤ 64 := by omega
              have hl2b : l2 ≤ 75582 * 64 := Nat.le_trans hl2 (Nat.mul_le_mul_right _ (by omega))
              have hl3b : l2 + l3 ≤ (j + 1) * 64 := by rw [Nat.add_mul, Nat.one_mul]; exact Nat.add_le_add hl2 hl364
              clear hus hl3 hol hbl hr3 u1 u2 u3 u4 hu0 e4
              go_wp2_with fail
              refine Hr3.out.mono ?_
              rintro e w3 ⟨A4, c4, rfl, ho4, hb4⟩
              have HO4 := Lib.hid ho4
              have HQ4 := Lib.hid (HQ.out.here.call hb4)
              clear ho4 hb4
              go_wp2_with (at_builtin; refine wpList_joinL rfl (.tmp 34) (.tmp 40) rfl rfl rfl HQ4.out HO4.out (Nat.le_refl _) (by omega) ?_)
              intro A5 c5 w5 hs5 hg5 hr5
              have HQ5 := Lib.hid hs5
              have HL5 : Hid ((ac ++ us).length = l2 + l3) := Lib.hid (by rw [List.length_append, HL2.out, HL3.out])
              have HA5 : Hid (SameSum (ac ++ us) ((P.take (j + 1)).flatMap (bef F a))) := Lib.hid (by
                rw [List.take_add_one, hu.out]
                simp only [Option.toList_some, List.flatMap_append, List.flatMap_cons, List.flatMap_nil, List.append_nil]
                exact HA2.out.append HB4.out)
              have HU5 : Hid (∀ v ∈ ac ++ us, v.length ≤ 7) := Lib.hid (fun v hv => by
                rcases List.mem_append.1 hv with h | h
                · exact HU2.out v h
                · exact HB3.out v h)
              clear hs5 hg5 hr5
              go_wp2_with fail
              go_roundw
              case rel => exact ⟨j + 1, l2 + l3, c5, _, A5, _, by omega, by go_num, rfl, hl3b, HL5, HA5, HU5, HQ5⟩
              case measure => simp [intOf]; omega
            · obtain rfl : j = lp := by omega
              have hl2b : l2 ≤ 75582 * 64 := Nat.le_trans hl2 (Nat.mul_le_mul_right _ (by omega))
              have HT : Hid (totalL ac ≤ 1000000000000) := Lib.hid (by
                have := tot_le ac 7 HU2.out
                rw [HL2.out] at this
                omega)
              have Ho := Lib.hid (oddOnes_any A2 l2 c2 ac _ HQ.out.rd (by omega) HT.out)
              have HE : Hid (oddL ac = oddL (nf (x.drop i))) := Lib.hid (by
                have h1 := HA2.out
                rw [List.take_of_length_le (by rw [HPl.out]; exact Nat.le_refl _)] at h1
                rw [Hxd.out]
                exact oddL_congr h1)
              have hol : (oddL ac).length ≤ 75582 := by rw [HE.out]; exact nf_len (okW_drop Hok.out i)
              obtain ⟨P2, hP2e⟩ : ∃ P, P = oddL ac := ⟨_, rfl⟩
              rw [← hP2e] at Ho HE hol
              obtain ⟨l3, hl3⟩ : ∃ l, l = P2.length := ⟨_, rfl⟩
              rw [← hl3] at Ho hol
              have HL3 := Lib.hid hl3.symm
              clear hP2e hl3
              go_wp2_with fail
              refine Ho.out.mono ?_
              rintro e w5 ⟨A5, c5, rfl, ho5, hb5⟩
              have HPS5 : Hid (StL wo So w5 w5.heap.size A5 l3 c5 P2) := Lib.hid (by
                have hs1 : So ≤ Sp := by rw [HSp.out]; exact HPS.out.size
                have hs2 := HQ.out.size
                have hs3 := hb5.size
                refine ⟨ho5.mono (Nat.le_trans hs1 hs2) (Nat.le_refl _), HPS.out.bel.trans ((HQ.out.bel.trans (hb5.mono hs2)).mono hs1), ?_, Nat.le_refl _⟩
                omega)
              have HE2 : Hid (P2 = oddL (nf (x.drop ((i : Int) - 1 + 1).toNat))) := Lib.hid (by rw [HE.out, show ((i : Int) - 1 + 1).toNat = i from by omega])
              clear ho5 hb5
              go_wp2_with fail
              go_roundw
              case rel => exact ⟨(i : Int) - 1, A5, l3, c5, _, P2, by omega, by omega, rfl, rfl, hol, HL3, HE2, HPS5⟩
              case measure => first | (simp [intOf]; done) | (simp [intOf]; omega)
        · obtain rfl : t = -1 := by omega
          have HE : Hid (P = oddL (nf x)) := Lib.hid (by have := HP.out; simpa using this)
          have HO := Lib.hid (HS.out.here.call (show Below wo.heap.size wo wr by rw [← HSo.out]; exact HPS.out.bel))
          have HPo := Lib.hid (show OwnL wr wo.heap.size wr.heap.size Ap lp cp P by rw [← HSo.out]; exact HPS.out.own.mono (Nat.le_refl _) HPS.out.hi)
          go_wp2_with (at_builtin; refine wpList_joinL rfl (.tmp 45) (.tmp 46) rfl rfl rfl HO.out HPo.out (Nat.le_refl _) (by omega) ?_)
          intro A5 c5 w5 hs5 _ _
          have HS5 := Lib.hid hs5
          have HL5 : Hid ((acc ++ P).length = l' + lp) := Lib.hid (by rw [List.length_append, HL'.out, HPl.out])
          have HA5 : Hid (SameSum (acc ++ P) ((xss.take (k + 1)).flatMap nf)) := Lib.hid (by
            rw [List.take_add_one, hx.out]
            simp only [Option.toList_some, List.flatMap_append, List.flatMap_cons, List.flatMap_nil, List.append_nil]
            refine HA.out.append ?_
            rw [HE.out]
            exact oddL_same _)
          have HU5 : Hid (∀ v ∈ acc ++ P, v.length ≤ 7) := Lib.hid (fun v hv => by
            rcases List.mem_append.1 hv with h | h
            · exact HU.out v h
            · rw [HE.out] at h
              have := nf_word (oddL_mem h) Hok.out.2.1
              rw [this.1]; exact Hok.out.1)
          have hlk3 : l' + lp ≤ (k + 1) * 75582 := Nat.le_trans (Nat.add_le_add_left hlp _) hlk2
          clear hs5
          go_wp2_with fail
          go_roundw
          case rel => exact ⟨k + 1, l' + lp, c5, _, A5, _, by omega, by go_num, rfl, hlk3, HL5, HA5, HU5, HS5⟩
          case measure => simp [intOf]; omega
    · obtain rfl : k = n := by omega
      have hlb : l' ≤ 7558200000 := Nat.le_trans hlk (Nat.le_trans (Nat.mul_le_mul_right _ hn) (by omega))
      have HT : Hid (totalL acc ≤ 1000000000000) := Lib.hid (by
        have := tot_le acc 7 HU.out
        rw [HL'.out] at this
        omega)
      have Ho := Lib.hid (oddOnes_any A' l' c' acc _ HS.out.rd (by omega) HT.out)
      have HE : Hid (oddL acc = formL xss) := Lib.hid (by
        have h1 := HA.out
        rw [List.take_of_length_le (by rw [Hl.out]; exact Nat.le_refl _)] at h1
        exact oddL_congr h1)
      go_wp2_with fail
      refine Ho.out.mono ?_
      rintro e w5 ⟨A5, c5, rfl, ho5, hb5⟩
      have h9 : Hid (StL w V w5 w5.heap.size A5 (oddL acc).length c5 (oddL acc)) := Lib.hid ⟨ho5.mono HS.out.size (Nat.le_refl _), HS.out.bel.trans (hb5.mono HS.out.size), Nat.le_trans HS.out.size hb5.size, Nat.le_refl _⟩
      clear ho5 hb5
      go_wp2_with fail
      go_ret
      have h8 := h9.out
      rw [HVe.out] at h8
      exact RetL.mk (by rw [HE.out]) HE.out h8
end Go.Proofs.Ythaokhjkibbplaa
