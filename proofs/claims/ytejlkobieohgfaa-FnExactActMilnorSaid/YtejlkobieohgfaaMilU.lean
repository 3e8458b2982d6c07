/- impl.splits: all ways to part an exponent list. -/
import Derived.Test.YtejlkobieohgfaaMilT
namespace Go.Proofs.Ytejlkobieohgfaa
open Go.RowKit
set_option linter.unusedVariables false

set_option maxRecDepth 100000 in
set_option maxHeartbeats 4000000 in
theorem splits_any (A : Option Addr) (n c B : Nat) (r : List Int) (w : World) (h : RdS w B A n c r) (hr : Row5 r) (hB : B ≤ w.heap.size) :
    Calls Try.prog 148 #[.slice A n c] w (RetPT ((prt r).map prT) w) := by
  have H := Lib.hid (h.mono hB)
  have HL := Lib.hid h.len
  have HR5 := Lib.hid hr
  have hn5 : n ≤ 5 := by rw [← h.len]; exact hr.len
  obtain ⟨R, hR⟩ : ∃ R, R = RetPT ((prt r).map prT) w := ⟨_, rfl⟩
  have HR := Lib.hid hR
  rw [← hR]
  obtain ⟨V, hV⟩ : ∃ V, V = w.heap.size := ⟨_, rfl⟩
  have S4 := start_prt w
  obtain ⟨w4, hw4⟩ : ∃ W, W = (((w.alloc (.cells #[] 2)).alloc (.cells #[] 2)).alloc (.cells #[.slice (some ⟨w.heap.size, 0, none⟩) 0 0, .slice (some ⟨w.heap.size + 1, 0, none⟩) 0 0] 29)).alloc (.cells #[.slice (some ⟨w.heap.size + 1 + 1, 0, none⟩) 2 2] 22) := ⟨_, rfl⟩
  rw [← hw4, ← hV] at S4
  rw [← hV] at hw4
  have HS4 := Lib.hid S4
  have HW4 := Lib.hid hw4
  have HV := Lib.hid hV
  clear h hr hB hR S4 hw4 hV
  go_enter Try.func148, Try.ntmps148
  go_wp2_with fail
  rw [← HV.out, ← HW4.out]
  go_loopw [3, 18] (fun o i wr => ∃ (k L c' K : Nat) (A' : Option Addr), k ≤ n ∧ i = .int .i64 k ∧ o = .slice A' L c' ∧ L ≤ 256 ∧ Hid (StT w V wr K A' L c' ((prt (r.take k)).map pr))) (fun _ i _ => n - (intOf i).toNat)
  case atStart => exact ⟨0, 1, 1, _, _, Nat.zero_le _, rfl, rfl, by omega, HS4⟩
  case round =>
    clear HS4
    obtain ⟨k, L, c', K, A', hk, rfl, rfl, hL, HO⟩ := hrel
    obtain ⟨wz, hwz⟩ : ∃ W : World, W = wr := ⟨_, rfl⟩
    subst hwz
    have BZ := Lib.hid (show Below w.heap.size w wz from by rw [← HV.out]; exact HO.out.bel)
    have hVz : w.heap.size ≤ wz.heap.size := BZ.out.size
    by_cases hlt : k < n
    · obtain ⟨ad, nk, rfl, hbr0, hx, hcr0⟩ := H.out.at_ hlt
      have hbr : (ad.add k).block < w.heap.size := by rw [block_of_add]; exact hbr0
      have hcr : w.cell? (ad.add k) = some (.int .i64 nk) := hcr0
      have hcz := (BZ.out.cell (p := ad.add k) hbr).trans hcr
      have hnk0 := (HR5.out.small nk (mem_of hx)).1
      have hnk40 := (HR5.out.small nk (mem_of hx)).2
      obtain ⟨m, hm⟩ : ∃ m : Nat, nk = m := ⟨nk.toNat, by omega⟩
      subst hm
      have HXK := Lib.hid hx.out
      have HPK := Lib.hid (show prt (r.take (k + 1)) = prtS (prt (r.take k)) (m : Int) from prt_take hx)
      have HRk := Lib.hid (HR5.out.pre k)
      obtain ⟨PS, hPS⟩ : ∃ PS, PS = prt (r.take k) := ⟨_, rfl⟩
      rw [← hPS] at HO HPK
      have HPS := Lib.hid hPS
      have HPl := Lib.hid (show PS.length = L from by have := HO.out.own.len; rwa [List.length_map] at this)
      have HPm := Lib.hid (show ∀ e ∈ PS, e.1.length ≤ 5 ∧ e.2.length ≤ 5 from fun e he => by
        have := (HRk.out.part (by rw [← hPS]; exact he))
        exact ⟨this.1.len, this.2.1.len⟩)
      have S0 := Lib.hid (StT.start (Below.refl wz.heap.size wz) (Nat.le_refl _))
      have hlt' : (k : Int) < (n : Int) := by omega
      have hk0 : (0 : Int) ≤ (k : Int) := by omega
      have HCR := Lib.hid (And.intro hbr hcr)
      clear hx hbr0 hcr0 hPS hbr hcr
      go_wp2_with fail
      go_loopw [6, 25] (fun v i wr => ∃ (j l2 c2 K2 : Nat) (A2 : Option Addr), j ≤ L ∧ i = .int .i64 j ∧ v = .slice A2 l2 c2 ∧ l2 ≤ j * 41 ∧ Hid (StT wz wz.heap.size wr K2 A2 l2 c2 ((prtS (PS.take j) (m : Int)).map pr))) (fun _ i _ => L - (intOf i).toNat)
      case atStart => exact ⟨0, 0, 0, _, _, Nat.zero_le _, rfl, rfl, Nat.zero_le _, S0⟩
      case round =>
        clear S0 hcz
        obtain ⟨j, l2, c2, K2, A2, hj, rfl, rfl, hl2, HN⟩ := hrel
        by_cases hjl : j < L
        · obtain ⟨g, A3, n3, c3, xss, rfl, hbg, hps, hcg, hrp⟩ := (HO.out.own.rd HO.out.hi).at_ hjl
          obtain ⟨e, he⟩ : ∃ e, PS[j]? = some e := ⟨PS[j]'(by rw [HPl.out]; exact hjl), List.getElem?_eq_getElem _⟩
          obtain rfl : pr e = xss := by have := hps.out; rw [List.getElem?_map, he] at this; exact Option.some.inj this
          have HE := Lib.hid he
          have hel := HPm.out e (List.mem_of_getElem? he)
          obtain rfl : 2 = n3 := hrp.len
          obtain ⟨ad1, B1, m1, c4, x1, rfl, hb1, hx1, hc1', hr1⟩ := hrp.at_ (k := 0) (by omega)
          obtain ⟨ad1', B2, m2, c5, x2, had, hb2', hx2, hc2', hr2⟩ := hrp.at_ (k := 1) (by omega)
          obtain rfl : ad1 = ad1' := by simpa using had
          obtain rfl : e.1 = x1 := by have := hx1.out; simpa [pr] using this
          obtain rfl : e.2 = x2 := by have := hx2.out; simpa [pr] using this
          have hc1 : wz.cell? ad1 = some (.slice B1 m1 c4) := by simpa [Addr.add] using hc1'
          have hc2 : wz.cell? ⟨ad1.block, ad1.off + 1, none⟩ = some (.slice B2 m2 c5) := hc2'
          have hb2 : ad1.block < wz.heap.size := hb1
          have hm1 : m1 ≤ 5 := by rw [← hr1.len]; exact hel.1
          have hm2 : m2 ≤ 5 := by rw [← hr2.len]; exact hel.2
          obtain ⟨hbr, hcr⟩ := HCR.out
          have HC := Lib.hid (fun (W : World) (hb : Below wz.heap.size wz W) => (show W.cell? ad1 = some (.slice B1 m1 c4) ∧ W.cell? ⟨ad1.block, ad1.off + 1, none⟩ = some (.slice B2 m2 c5) from ⟨(hb.cell (p := ad1) hb1).trans hc1, (hb.cell (p := ⟨ad1.block, ad1.off + 1, none⟩) hb2).trans hc2⟩))
          have R1 := Lib.hid hr1
          have R2 := Lib.hid hr2
          have HTK := Lib.hid (prtS_take (n := (m : Int)) HE)
          have HN1 := Lib.hid (show StT wz wz.heap.size wr K2 A2 l2 c2 ((prtS (PS.take j) (m : Int)).map pr ++ ((List.range 0).map (prX e (m : Int))).map pr) from by simpa using HN.out)
          obtain ⟨PB, hPB⟩ : ∃ PB, PB = (prtS (PS.take j) (m : Int)).map pr := ⟨_, rfl⟩
          rw [← hPB] at HN1
          have HPB := Lib.hid hPB
          have hjl' : (j : Int) < (L : Int) := by omega
          have hj0 : (0 : Int) ≤ (j : Int) := by omega
          have kw := (HN.out.bel.cell (p := ⟨g, j, none⟩) hbg).trans hcg
          clear hps he hel hrp hx1 hx2 had hb2' hc1' hc2' hr1 hr2 hc1 hc2 hb2 hbr hcr hPB hb1 hcg
          go_wp2_with fail
          go_loopw [6, 9] (fun v i wr => ∃ (x l3 c6 K3 : Nat) (A3 : Option Addr), x ≤ m + 1 ∧ i = .int .i64 x ∧ v = .slice A3 l3 c6 ∧ Hid (l3 = l2 + x) ∧ Hid (StT wz wz.heap.size wr K3 A3 l3 c6 (PB ++ ((List.range x).map (prX e (m : Int))).map pr))) (fun _ i _ => m + 1 - (intOf i).toNat)
          case atStart => exact ⟨0, l2, c2, K2, A2, Nat.zero_le _, rfl, rfl, Lib.hid rfl, HN1⟩
          case round =>
            clear HN1 HN kw
            obtain ⟨x, l3, c6, K3, A3, hx, rfl, rfl, hl3, HN⟩ := hrel
            have BN := Lib.hid HN.out.bel
            obtain ⟨k0, k1⟩ := HC.out wr BN.out
            by_cases hxm : x ≤ m
            · have hxm' : (x : Int) ≤ (m : Int) := by omega
              obtain ⟨y, hy⟩ : ∃ y : Int, y = (m : Int) - (x : Int) := ⟨_, rfl⟩
              have hwy : IntKind.i64.wrap ((m : Int) - (x : Int)) = y := by rw [hy, IntKind.wrap_i64]; omega
              have HY := Lib.hid hy
              have Ed := Lib.hid (Ext.drew (Ext.refl wr))
              have zw := HN.out.size
              have Bd := Lib.hid (show Below wz.heap.size wz wr.drew from below_drewN BN.out 1)
              have R1d := Lib.hid (R1.out.below Bd.out)
              have kd := HC.out _ Bd.out
              have hx0 : (0 : Int) ≤ (x : Int) := by omega
              have hbd1 : m1 ≤ 2000000000000 := by omega
              have hbd2 : m2 ≤ 2000000000000 := by omega
              have hbd1a : m1 + 1 ≤ 3000000000000 := by omega
              have hbd2a : m2 + 1 ≤ 3000000000000 := by omega
              have hbd3 : l3 ≤ 3000000000000 := by have := hl3.out; omega
              have hbd4 : m1 ≤ 1000000000000 := by omega
              have hbd5 : m2 ≤ 1000000000000 := by omega
              clear hy
              go_upto_region 12 with fail
              go_region_held3 (fun w' => w'.cell? ad1 = some (.slice B1 m1 c4) ∧ w'.cell? ⟨ad1.block, ad1.off + 1, none⟩ = some (.slice B2 m2 c5)) (first | (with_reducible exact HC.out _ Bd.out) | (with_reducible exact HC.out _ (below_dr (below_al BN.out _))) | (with_reducible exact HC.out _ (below_dr (below_al (below_al BN.out _) _))) | (with_reducible exact HC.out _ B6.out) | (with_reducible exact HC.out _ (below_al B6.out _)) | (with_reducible exact HC.out _ (below_al (below_al B6.out _) _)) | (with_reducible exact HC.out _ B7.out) | (with_reducible exact HC.out _ (below_al B7.out _)) | (with_reducible exact HC.out _ (below_al (below_al B7.out _) _)) | (with_reducible exact HC.out _ B8.out) | (with_reducible exact HC.out _ (below_al B8.out _)) | (with_reducible exact HC.out _ (below_al (below_al B8.out _) _)) | (with_reducible exact HC.out _ B9.out) | (with_reducible exact HC.out _ (below_al B9.out _)) | (with_reducible exact HC.out _ (below_al (below_al B9.out _) _)) | (with_reducible exact kj) | fail)
                (first
                  | (go_at_call_of 170 B1
                     refine (copyI_st B1 m1 c4 _ e.1 _ (R1.out.below (by first | exact Bd.out | exact below_dr (below_al BN.out _) | exact below_dr (below_al (below_al BN.out _) _))) (Below.size (by first | exact Bd.out | exact below_dr (below_al BN.out _) | exact below_dr (below_al (below_al BN.out _) _))) hbd4).mono ?_
                     rintro e' u1 ⟨A6, c6', rfl, ho6, hb6⟩
                     have T6 := Lib.hid (callStS (wr := wr) (by first | exact Ed.out | exact below_dr (below_al (Below.refl _ _) _) | exact below_dr (below_al (below_al (Below.refl _ _) _) _)) ho6 hb6)
                     have B6 := Lib.hid (BN.out.trans (T6.out.bel.mono zw))
                     first
                       | have CX := Lib.hid (cl_below (cl_dr (cl_new wr (.int .i64 (x : Int)) 2)) hb6)
                       | have CX := Lib.hid (cl_below (cl_dr (cl_al (cl_new wr (.int .i64 (x : Int)) 2) _)) hb6)
                       | have CX := Lib.hid (cl_below (cl_dr (cl_new2 wr _ (.int .i64 (x : Int)) 2)) hb6)
                       | skip
                     first
                       | (have CY := Lib.hid (cl_below (cl_dr (cl_new wr (.int .i64 y) 2)) hb6)
                          have NY := Lib.hid (ne_of ho6 (cl_dr (cl_new wr (.int .i64 y) 2)).1))
                       | (have CY := Lib.hid (cl_below (cl_dr (cl_al (cl_new wr (.int .i64 y) 2) _)) hb6)
                          have NY := Lib.hid (ne_of ho6 (cl_dr (cl_al (cl_new wr (.int .i64 y) 2) _)).1))
                       | (have CY := Lib.hid (cl_below (cl_dr (cl_new2 wr _ (.int .i64 y) 2)) hb6)
                          have NY := Lib.hid (ne_of ho6 (cl_dr (cl_new2 wr _ (.int .i64 y) 2)).1))
                       | skip
                     clear ho6 hb6)
                  | (refine step_joinI (by rfl) (.tmp 38) (.tmp 40) (by rfl) (by rfl) (by rfl) (by first | exact T6.out | exact stS_al T6.out _ | exact stS_al (stS_al T6.out _) _) (rd_cl (x := (x : Int)) (by first | exact CX.out | exact cl_al CX.out _ | exact cl_new _ _ _ | exact cl_al (cl_new _ _ _) _ | exact cl_new2 _ _ _ _)) hbd1a ?_
                     intro A7 c7 w7 hs7 hg7
                     have T7 := Lib.hid hs7
                     have B7 := Lib.hid (BN.out.trans (T7.out.bel.mono zw))
                     first
                       | have CY7 := Lib.hid (cl_grown hg7 CY.out NY.out)
                       | have CY7 := Lib.hid (cl_grown hg7 (cl_al CY.out _) NY.out)
                       | have CY7 := Lib.hid (cl_grown hg7 (cl_new u1 (.int .i64 y) 2) (ne_of2 T6.out.own (Nat.le_refl _)))
                       | have CY7 := Lib.hid (cl_grown hg7 (cl_al (cl_new u1 (.int .i64 y) 2) _) (ne_of2 T6.out.own (Nat.le_refl _)))
                       | have CY7 := Lib.hid (cl_grown hg7 (cl_new2 u1 _ (.int .i64 y) 2) (ne_of2 T6.out.own (Nat.le_succ _)))
                       | skip
                     clear hs7 hg7)
                  | (go_at_call_of 170 B2
                     refine (copyI_st B2 m2 c5 _ e.2 _ (R2.out.below (by first | exact B7.out | exact below_al B7.out _)) (Below.size (by first | exact B7.out | exact below_al B7.out _)) hbd5).mono ?_
                     rintro e' u2 ⟨A8, c8, rfl, ho8, hb8⟩
                     have T8 := Lib.hid (callStS (wr := w7) (by first | exact Below.refl _ _ | exact below_al (Below.refl _ _) _) ho8 hb8)
                     have B8 := Lib.hid (B7.out.trans (T8.out.bel.mono B7.out.size))
                     first
                       | have CY8 := Lib.hid (cl_below CY7.out hb8)
                       | have CY8 := Lib.hid (cl_below (cl_new w7 (.int .i64 y) 2) hb8)
                       | skip
                     clear ho8 hb8)
                  | (refine step_joinI (by rfl) (.tmp 45) (.tmp 49) (by rfl) (by rfl) (by rfl) (by first | exact T8.out | exact stS_al T8.out _) (rd_cl (x := y) (by first | exact CY8.out | exact cl_new _ _ _)) hbd2a ?_
                     intro A9 c9 w9 hs9 _
                     have T9 := Lib.hid hs9
                     have B9 := Lib.hid (B7.out.trans (hs9.bel.mono B7.out.size))
                     have P9 := Lib.hid (pair_made T7.out T9.out)
                     have N9 := Lib.hid (HN.out.call (Below.trans (T7.out.bel.trans (hs9.bel.mono T7.out.bel.size)) ((Below.refl _ _).alloc (Nat.le_trans T7.out.bel.size hs9.bel.size) (.cells #[.slice A7 (m1 + 1) c7, .slice A9 (m2 + 1) c9] 29))))
                     have z9 := Nat.le_trans HN.out.hi (Nat.le_trans T7.out.bel.size hs9.bel.size)
                     have q9 : (w9.alloc (.cells #[.slice A7 (m1 + 1) c7, .slice A9 (m2 + 1) c9] 29)).heap.size = w9.heap.size + 1 := by simp
                     have y9 := Nat.le_of_eq q9.symm
                     have x9 : K3 ≤ w9.heap.size + 1 := Nat.le_succ_of_le z9
                     have P9 := Lib.hid (P9.out.mono HN.out.hi (Nat.le_refl _))
                     clear hs9)
                  | (refine step_pushT (by rfl) (.tmp 34) (.tmp 52) (by rfl) (by rfl) q9 (by rfl) N9.out P9.out x9 y9 hbd3 ?_
                     intro A10 c10 w10 hs10
                     have HS10 := Lib.hid hs10
                     have kj := HC.out _ hs10.bel
                     clear hs10))
              all_goals
                have HS11 := HS10.out
                rw [HY.out, List.append_assoc, ← range_snoc] at HS11
                have HS11 := Lib.hid HS11
                clear HS10 k0 k1
                go_wp2_with fail
                go_roundw
                case rel => exact ⟨x + 1, l3 + 1, c10, _, A10, by omega, by go_num, rfl, Lib.hid (by have := hl3.out; omega), HS11⟩
                case measure => simp [intOf]; omega
            · obtain rfl : x = m + 1 := by omega
              have hxm' : ¬ ((m + 1 : Nat) : Int) ≤ (m : Int) := by omega
              have hxd : decide (((m : Nat) : Int) + 1 ≤ (m : Int)) = false := decide_eq_false (by omega)
              have HS12 := Lib.hid (show StT wz wz.heap.size wr K3 A3 l3 c6 ((prtS (PS.take (j + 1)) (m : Int)).map pr) from by
                rw [HTK.out, List.map_append, ← HPB.out]; exact HN.out)
              go_wp2_with fail
              go_roundw
              case rel => exact ⟨j + 1, l3, c6, K3, A3, by omega, by go_num, rfl, by have := hl3.out; omega, HS12⟩
              case measure => simp [intOf]; omega
        · obtain rfl : j = L := by omega
          have hjl' : ¬ (j : Int) < (j : Int) := by omega
          have HS13 := Lib.hid (show StT w V wr K2 A2 l2 c2 ((prt (r.take (k + 1))).map pr) from by
            rw [HPK.out]
            have h1 := HN.out
            rw [List.take_of_length_le (by rw [HPl.out]; exact Nat.le_refl _)] at h1
            exact stT_down h1 HO.out.bel HO.out.size)
          have hl3 : l2 ≤ 256 := by
            have h1 := HS13.out.own.len
            rw [List.length_map] at h1
            rw [← h1]; exact (HR5.out.pre (k + 1)).count
          go_wp2_with fail
          go_roundw
          case rel => exact ⟨k + 1, l2, c2, K2, A2, by omega, by go_num, rfl, hl3, HS13⟩
          case measure => simp [intOf]; omega
    · obtain rfl : k = n := by omega
      have h5 := HO.out
      rw [List.take_of_length_le (by rw [HL.out]; exact Nat.le_refl _), HV.out] at h5
      have HO5 := Lib.hid h5
      clear h5 HO
      have HPl := Lib.hid (show (prt r).length = L from by have := HO5.out.own.len; rwa [List.length_map] at this)
      have HPm := Lib.hid (show ∀ e ∈ prt r, e.1.length ≤ 5 ∧ e.2.length ≤ 5 from fun e he => by
        have := (HR5.out.part he)
        exact ⟨this.1.len, this.2.1.len⟩)
      obtain ⟨PS, hPS⟩ : ∃ PS, PS = prt r := ⟨_, rfl⟩
      rw [← hPS] at HO5 HPl HPm HR
      have HO6 := Lib.hid (show StT w w.heap.size wz K A' L c' ((PS.take 0).map prT ++ (PS.drop 0).map pr) from by simpa using HO5.out)
      clear hPS HO5 BZ hVz
      go_wp2_with fail
      go_loopw [59] (fun i wr => ∃ j : Nat, j ≤ L ∧ i = .int .i64 j ∧ Hid (StT w w.heap.size wr K A' L c' ((PS.take j).map prT ++ (PS.drop j).map pr))) (fun i _ => L - (intOf i).toNat)
      case atStart => exact ⟨0, Nat.zero_le _, rfl, HO6⟩
      case round =>
        clear HO6
        obtain ⟨j, hj, rfl, HO⟩ := hrel
        by_cases hjl : j < L
        · have hpl : j < PS.length := by rw [HPl.out]; exact hjl
          obtain ⟨g0, A3, n3, c3, xss, lo, hi, rfl, hg0, hgK, hps, hcg, hom, hlo, hlh, hhi, hset⟩ := HO.out.own.at2 HO.out.hi hjl
          obtain ⟨e, he⟩ : ∃ e, PS[j]? = some e := ⟨PS[j], List.getElem?_eq_getElem hpl⟩
          have hel := HPm.out e (List.mem_of_getElem? he)
          have hlt0 : ((PS.take j).map prT).length = j := by rw [List.length_map, List.length_take]; omega
          obtain rfl : pr e = xss := by
            have := hps.out
            rw [List.getElem?_append_right (by omega), hlt0, Nat.sub_self, List.getElem?_map, List.getElem?_drop, Nat.add_zero, he] at this
            exact Option.some.inj this
          obtain rfl : 2 = n3 := hom.own.len
          obtain ⟨g, A1, n1, c1, A2, n2, c2, rfl, hgl, hgh, k0, k1, f0, f1, hr1, hr2, hcut⟩ := OwnM.cut2 (x := e.1) (y := e.2) hom
          have hn1 : n1 ≤ 1000000 := by rw [← hr1.len]; omega
          have hn2 : n2 ≤ 1000000 := by rw [← hr2.len]; omega
          have HSET := Lib.hid hset
          have HCUT := Lib.hid hcut
          have C1 := fun (W : World) (hW : W = wr.drew) => Lib.hid (show Calls Try.prog 119 #[.slice A1 n1 c1] W (RetTrim A1 n1 c1 e.1 W) from by rw [hW]; exact trimmed_any A1 n1 c1 _ e.1 wr.drew (hr1.below (below_drewN (Below.refl _ _) 1)) hn1)
          have C2 := fun (W : World) (hW : W = wr.drew) => Lib.hid (show Calls Try.prog 119 #[.slice A2 n2 c2] W (RetTrim A2 n2 c2 e.2 W) from by rw [hW]; exact trimmed_any A2 n2 c2 _ e.2 wr.drew (hr2.below (below_drewN (Below.refl _ _) 1)) hn2)
          have kd0 : wr.drew.cell? ⟨g, 0, none⟩ = some (.slice A1 n1 c1) := k0
          have kd1 : wr.drew.cell? ⟨g, 1, none⟩ = some (.slice A2 n2 c2) := k1
          have fd0 : wr.drew.frozen? ⟨g, 0, none⟩ = false := f0
          have fd1 : wr.drew.frozen? ⟨g, 1, none⟩ = false := f1
          have HLo := Lib.hid (And.intro hlo (And.intro hlh hhi))
          have HE := Lib.hid he
          have HGL := Lib.hid hgl
          have hjl' : (j : Int) < (L : Int) := by omega
          have hj0 : (0 : Int) ≤ (j : Int) := by omega
          clear hset hcut hom hr1 hr2 hps he hlo hlh hhi hel hg0 hgK hgl hgh
          go_upto_region 19 with fail
          clear hcg
          go_region_with (first
            | (go_at_call_of 119 A1
               refine (C1 _ rfl).out.mono ?_
               rintro e' u1 ⟨m1, hm1, ht1, rfl, rfl⟩
               have T1 := Lib.hid (And.intro hm1 ht1)
               clear hm1 ht1)
            | (go_at_call_of 119 A2
               refine (C2 _ rfl).out.mono ?_
               rintro e' u2 ⟨m2, hm2, ht2, rfl, rfl⟩
               have T2 := Lib.hid (And.intro hm2 ht2)
               clear hm2 ht2))
          all_goals
            go_wp2_with fail
            go_roundw
            case rel =>
              obtain ⟨hm1, ht1⟩ := T1.out
              obtain ⟨hm2, ht2⟩ := T2.out
              exact ⟨j + 1, by omega, by go_num, Lib.hid (trim_step HO.out HLo.out.1 HSET.out (HCUT.out m1 m2 hm1 hm2) (Nat.le_trans HLo.out.1 HGL.out) HE ht1 ht2)⟩
            case measure => simp [intOf]; omega
        · obtain rfl : j = L := by omega
          go_wp2_with fail
          rw [HR.out]
          refine RetPT.mk HO.out ?_
          rw [List.take_of_length_le (by rw [HPl.out]; exact Nat.le_refl _), List.drop_of_length_le (by rw [HPl.out]; exact Nat.le_refl _)]
          simp
end Go.Proofs.Ytejlkobieohgfaa

/- impl.milnorMonomial. -/
namespace Go.Proofs.Ytejlkobieohgfaa
open Go.RowKit
set_option linter.unusedVariables false

theorem RdT.keptC {w w' : World} {B : Nat} {A : Option Addr} {n c : Nat} {ps : Lls} (h : RdT w B A n c ps) (k : KeptC w w') : RdT w' B A n c ps :=
  ⟨h.len, h.cap, fun j p hp => by
    obtain ⟨g, A', n', c', h1, h2, h3, h4⟩ := h.each j p hp
    exact ⟨g, A', n', c', h1, h2, k.cell h3, h4.keptC k⟩⟩
/-- append of integers at a guarded operation that is wanted -/
theorem wpList_joinIg {w0 w : World} {ops : Array Oper} {rest : List Oper} {o : Oper} {a : Act} {Q : Exit → Act → World → Prop} (hw : Region.wanted o (yielded ops a.tmps) = true) (s x : Operand)
    (ho : o.op = .call { callee := .builtin .append, args := #[s, x], argTypes := #[29, 29] }) {B n c m d Bx : Nat} {A Ax : Option Addr} {xs ys : List Int}
    (hs : a.eval s = .slice A n c) (hx : a.eval x = .slice Ax m d) (hst : StS w0 B w A n c xs) (hr : RdS w Bx Ax m d ys) (hn : n + m ≤ 3000000000000)
    (h : ∀ A2 c2 w', StS w0 B w' A2 (n + m) c2 (xs ++ ys) → wpList Try.prog ops Q rest (a.put o.dst (.slice A2 (n + m) c2)) w') : wpList Try.prog ops Q (o :: rest) a w := by
  refine wpList_step fun K hK => ?_
  rw [if_pos hw]
  refine wp_appV eltI s x ho hs hx hst.own.v hr.v (ints_one ys) (by omega) (by decide) hst.hi fun A' c' w' h1 hg _ => hK _ _ ?_
  have h2 : OwnS w' B A' (n + m) c' (xs ++ ys) := OwnV.s (by simpa using h1)
  exact h A' c' w' ⟨h2, hst.bel.grown hg hst.hi hst.own.row, Nat.le_trans hst.hi hg.size⟩
theorem own_lit (w : World) (s : Int) : OwnS (w.alloc (.cells #[.int .i64 s] 2)) w.heap.size (some ⟨w.heap.size, 0, none⟩) 1 1 [s] :=
  ⟨rfl, by simp, .inr ⟨w.heap.size, 1, _, rfl, Nat.le_refl _, heap_alloc_new w _, Nat.le_refl _, by unfold maxLen; omega, by simp, by simp⟩⟩
theorem okP_trim (p : List Int) (n : Int) : okP (trimL p) n = okP p n := trim_blind (fun p => okP p n) (fun p => okP_zero p n) p
theorem deg_trim (p : List Int) : deg (trimL p) = deg p := trim_blind deg deg_zero p
theorem psT_small {p : List Int} (h : Row5 p) : psT 0 p = p.sum := ((psT_bd p 0 (by omega) (by have := h.len; omega) h.small).1).trans (Int.zero_add _)
/-- what one part of a basis element adds -/
def milG (done t : List Int) (n : Int) (e : List Int × List Int) : List Int := if okP e.1 n = true then (milW t e.2).map (fun z => encP (done ++ (n + deg e.1) :: z)) else []
theorem milW_enc (done t r : List Int) (n : Int) : (milW (n :: t) r).map (fun z => encP (done ++ z)) = (prt r).flatMap (milG done t n) := by
  rw [milW, List.map_flatMap]
  congr 1
  funext e
  unfold milG
  split
  · rw [List.map_map]; rfl
  · rfl
theorem milG_len {done t : List Int} {n : Int} {e : List Int × List Int} (h : Row5 e.2) : (milG done t n e).length ≤ 256 ^ (t.length - 1) := by
  unfold milG
  split
  · rw [List.length_map]
    match t with
    | [] =>
      rw [milW]
      split <;> simp
    | m :: t => exact milW_len t m e.2 h
  · simp
theorem milG_take_len {r done t : List Int} {n : Int} (h : Row5 r) (k : Nat) : (((prt r).take k).flatMap (milG done t n)).length ≤ k * 256 ^ (t.length - 1) := by
  refine Nat.le_trans (flat_len _ _ (256 ^ (t.length - 1)) fun e he => milG_len (h.part (List.mem_of_mem_take he)).2.1) ?_
  rw [List.length_take]
  exact Nat.mul_le_mul_right _ (Nat.min_le_left _ _)
theorem flat_take_succ {α β : Type} {l : List α} {F : α → List β} {k : Nat} {e : α} (h : Hid (l[k]? = some e)) : (l.take (k + 1)).flatMap F = (l.take k).flatMap F ++ F e := by
  rw [List.take_add_one, h.out, List.flatMap_append]; simp
theorem pow_step {k j : Nat} (hk : k < 256) (hj : j ≥ 1) : k * 256 ^ (j - 1) + 256 ^ (j - 1) ≤ 256 ^ j := by
  obtain ⟨i, rfl⟩ : ∃ i, j = i + 1 := ⟨j - 1, by omega⟩
  rw [Nat.add_sub_cancel, Nat.pow_succ, Nat.mul_comm (256 ^ i)]
  have : (k + 1) * 256 ^ i ≤ 256 * 256 ^ i := Nat.mul_le_mul_right _ (by omega)
  rw [Nat.add_mul, Nat.one_mul] at this
  exact this

set_option maxRecDepth 100000 in
set_option maxHeartbeats 4000000 in
theorem milm_any : ∀ (term : List Int) (w : World) (b : Nat) (L : List Int) (Ad At Ar : Option Addr) (nd cd nt ct nr cr : Nat) (done r : List Int), OwnP w b L → RdS w w.heap.size Ad nd cd done → (Ad = none → nd = 0) → RdS w w.heap.size At nt ct term → RdS w w.heap.size Ar nr cr r → Row5 r → trimL r = r →
    (∀ a ∈ done, 0 ≤ a) → (∀ a ∈ term, 0 ≤ a) → done.sum + term.sum + deg r ≤ 63 → nd + nt ≤ 4 → L.length + 256 ^ nt ≤ 900000000000 →
    Calls Try.prog 109 #[.map (some b), .slice Ad nd cd, .slice At nt ct, .slice Ar nr cr] w (RetTw b (L ++ (milW term r).map fun z => encP (done ++ z)) w)
  | [], w, b, L, Ad, At, Ar, nd, cd, nt, ct, nr, cr, done, r, hP, hd, hA, ht, hr, h5, htr, h0d, h0t, hs, hn, hL => by
    have hnt : nt = 0 := ht.len.symm
    subst hnt
    have hall := all_zero_trim r
    rw [htr] at hall
    by_cases hr0 : nr = 0
    · subst hr0
      have hre : r = [] := List.eq_nil_of_length_eq_zero hr.len
      have hf : fitP done := fit_of_sum h0d (by have := deg_nonneg h5.nn; simp at hs; omega)
      have HC := Lib.hid (codeOf_any Ad nd cd _ done w hd hf (by omega))
      have HT := Lib.hid (toggle_any b (encP done) L w hP (wfI_enc hf (by rw [hd.len]; omega)) (by omega))
      have HE : Hid (L ++ (milW [] r).map (fun z => encP (done ++ z)) = L ++ [encP done]) := Lib.hid (by rw [hre]; simp [milW])
      rw [HE.out]
      clear hP hd hA ht hr h5 htr h0d h0t hs hL hf hall hre
      go_enter Try.func109, Try.ntmps109
      go_wp2_with fail
      refine HC.out.mono ?_
      rintro e w1 ⟨rfl, rfl⟩
      go_wp2_with fail
      refine HT.out.mono ?_
      rintro e w2 ⟨rfl, hp2, hg2, hs2⟩
      have P2 := Lib.hid hp2
      have G2 := Lib.hid hg2
      clear hp2 hg2 hs2
      go_wp2_with fail
      refine bodyPost_ret (results_none rfl _ _ _) rfl ?_
      exact RetTw.mk P2.out (Par.refl _) G2.out
    · have hre : ¬ r.all (· == 0) = true := fun h => hr0 (by rw [← hr.len, hall.1 h]; rfl)
      have HE : Hid (L ++ (milW [] r).map (fun z => encP (done ++ z)) = L) := Lib.hid (by rw [milW, if_neg hre]; simp)
      rw [HE.out]
      have P := Lib.hid hP
      have hz1 : ((nr : Int) == 0) = false := by simpa using hr0
      have hz2 : (nr == 0) = false := by simpa using hr0
      clear hP hd hA ht hr h5 htr h0d h0t hs hL hr0 hall hre
      go_enter Try.func109, Try.ntmps109
      go_wp2_with fail
      refine bodyPost_ret (results_none rfl _ _ _) rfl ?_
      exact RetTw.mk P.out (Par.refl _) (World.grownBy.refl _ _)
  | n :: t, w, b, L, Ad, At, Ar, nd, cd, nt, ct, nr, cr, done, r, hP, hd, hA, ht, hr, h5, htr, h0d, h0t, hs, hn, hL => by
    have IH := Lib.hid (milm_any t)
    have hnt : nt = t.length + 1 := by rw [← ht.len]; rfl
    obtain ⟨ad, x, rfl, hbk, hx, hcx⟩ := ht.at_ (k := 0) (by omega)
    have hxn : x = n := by have := hx.out; simp at this; exact this.symm
    subst hxn
    have hc0 : w.cell? ad = some (.int .i64 x) := by simpa [Addr.add] using hcx
    have hn0 := h0t x (by simp)
    have ht0 : ∀ a ∈ t, (0 : Int) ≤ a := fun a ha => h0t a (List.mem_cons_of_mem _ ha)
    have hsd := sum_nonneg' h0d
    have hst := sum_nonneg' ht0
    rw [List.sum_cons] at hs
    have hdg := deg_nonneg h5.nn
    have hx63 : x ≤ 63 := by omega
    have HSD := Lib.hid (show done.sum + x + t.sum + deg r ≤ 63 by omega)
    have HST := Lib.hid hst
    have HSD0 := Lib.hid hsd
    have P := Lib.hid hP
    have D := Lib.hid hd
    have HA := Lib.hid hA
    have T := Lib.hid ht
    have H0D := Lib.hid h0d
    have H0T := Lib.hid ht0
    have HL := Lib.hid hL
    have HNT := Lib.hid hnt
    have H5 := Lib.hid h5
    have hnt4 : nd + nt ≤ 4 := hn
    have hnt1 : 1 ≤ nt := by omega
    obtain ⟨G, hG⟩ : ∃ G, G = milG done t x := ⟨_, rfl⟩
    have HGd := Lib.hid hG
    have HFl := Lib.hid (show ∀ k, (((prt r).take k).flatMap G).length ≤ k * 256 ^ (t.length - 1) from fun k => by rw [hG]; exact milG_take_len h5 k)
    obtain ⟨R, hR⟩ : ∃ R, R = RetTw b (L ++ (milW (x :: t) r).map fun z => encP (done ++ z)) w := ⟨_, rfl⟩
    have HR := Lib.hid (show R = RetTw b (L ++ (prt r).flatMap G) w from by rw [hR, milW_enc, hG])
    have HSp := splits_any Ar nr cr _ r w hr h5 (Nat.le_refl _)
    obtain ⟨PS, hPS⟩ : ∃ PS, PS = prt r := ⟨_, rfl⟩
    have HPm := Lib.hid (show ∀ e ∈ PS, Row5 (trimL e.1) ∧ Row5 (trimL e.2) ∧ deg e.1 + deg e.2 = deg r from fun e he => by
      have := (h5.part (by rw [← hPS]; exact he))
      exact ⟨this.1.trim, this.2.1.trim, this.2.2.deg⟩)
    have hPl : PS.length ≤ 256 := by rw [hPS]; exact h5.count
    rw [← hPS] at HSp HFl HR
    have HSp := Lib.hid HSp
    rw [← hR]
    clear hP hd hA ht hr h5 htr h0d h0t hs hn hL hG hR hsd hst ht0 hcx hnt hx hPS hdg
    have hz1 : ((nt : Int) == 0) = false := by simp; omega
    have hz2 : (nt == 0) = false := by simp; omega
    go_enter Try.func109, Try.ntmps109
    go_wp2_with fail
    refine HSp.out.mono ?_
    rintro e0 w1 ⟨A1, c1, rfl, hrt, hb1⟩
    obtain ⟨lp, hlp⟩ : ∃ l, l = (PS.map prT).length := ⟨_, rfl⟩
    rw [← hlp] at hrt ⊢
    have hlpP : PS.length = lp := by rw [hlp, List.length_map]
    have HLP := Lib.hid hlpP
    have hl256 : lp ≤ 256 := by rw [← hlpP]; exact hPl
    have RT := Lib.hid hrt
    have B1 := Lib.hid hb1
    have P1 := Lib.hid (P.out.below hb1)
    have NC := Lib.hid P1.out.noCells
    have G1 := Lib.hid (show w.grownBy w1 (some b) from (grownBy_below hb1).but _)
    have D1 := Lib.hid (D.out.below hb1)
    have T1 := Lib.hid (T.out.below hb1)
    clear hrt hb1 hlp hc0 hlpP
    go_wp2_with fail
    go_loopw [28] (fun j wr => ∃ k : Nat, k ≤ lp ∧ j = .int .i64 k ∧ Hid (OwnP wr b (L ++ (PS.take k).flatMap G)) ∧ Hid (w1.grownBy wr (some b))) (fun j _ => lp - (intOf j).toNat)
    case atStart => exact ⟨0, Nat.zero_le _, rfl, Lib.hid (by simpa using P1.out), Lib.hid (World.grownBy.refl _ _)⟩
    case round =>
      obtain ⟨k, hk, rfl, HP, HG⟩ := hrel
      by_cases hlt : k < lp
      · have KC := Lib.hid (KeptC.of_grown HG.out NC.out)
        obtain ⟨g, A3, n3, c3, xss, rfl, hbg, hps, hcg, hrp⟩ := (RT.out.keptC KC.out).at_ hlt
        obtain ⟨e, he⟩ : ∃ e, PS[k]? = some e := ⟨PS[k]'(by rw [HLP.out]; exact hlt), List.getElem?_eq_getElem _⟩
        obtain rfl : prT e = xss := by have := hps.out; rw [List.getElem?_map, he] at this; exact Option.some.inj this
        have HE := Lib.hid he
        obtain ⟨p5, q5, pqd⟩ := HPm.out e (List.mem_of_getElem? he)
        obtain ⟨p, hp⟩ : ∃ p, p = trimL e.1 := ⟨_, rfl⟩
        obtain ⟨q, hq⟩ : ∃ q, q = trimL e.2 := ⟨_, rfl⟩
        have HGe := Lib.hid (show G e = if okP p x = true then (milW t q).map (fun z => encP (done ++ (x + deg p) :: z)) else [] from by
          rw [HGd.out]; unfold milG; rw [hp, hq, okP_trim, deg_trim, milW_trim])
        have HQT := Lib.hid (show trimL q = q from by rw [hq, trimL_trim])
        rw [← deg_trim e.1, ← deg_trim e.2] at pqd
        rw [← hp] at p5 pqd
        rw [← hq] at q5 pqd
        obtain rfl : 2 = n3 := hrp.len
        obtain ⟨ad1, Bp, m1, c4, x1, rfl, hb1, hx1, hc1', hr1⟩ := hrp.at_ (k := 0) (by omega)
        obtain ⟨ad1', Bq, m2, c5, x2, had, hb2', hx2, hc2', hr2⟩ := hrp.at_ (k := 1) (by omega)
        obtain rfl : ad1 = ad1' := by simpa using had
        obtain rfl : p = x1 := by have := hx1.out; rw [hp]; simpa [prT] using this
        obtain rfl : q = x2 := by have := hx2.out; rw [hq]; simpa [prT] using this
        have hc1 : wr.cell? ad1 = some (.slice Bp m1 c4) := by simpa [Addr.add] using hc1'
        have hc2 : wr.cell? ⟨ad1.block, ad1.off + 1, none⟩ = some (.slice Bq m2 c5) := hc2'
        have hm1 : m1 ≤ 5 := by rw [← hr1.len]; exact p5.len
        have P5 := Lib.hid p5
        have Q5 := Lib.hid q5
        have PQD := Lib.hid pqd
        have hpd0 := deg_nonneg p5.nn
        have hqd0 := deg_nonneg q5.nn
        have hps0 := (sum_take_le p5.nn p.length).1
        rw [List.take_length] at hps0
        have hpsd := sum_le_deg p5.nn
        have hpd40 := p5.deg
        have R1 := Lib.hid (hr1.mono HG.out.size)
        have R2 := Lib.hid (hr2.mono HG.out.size)
        have CS := sum_any Bp m1 c4 _ p wr R1.out (by omega)
        rw [psT_small p5] at CS
        have CS := Lib.hid CS
        obtain ⟨s, hs⟩ : ∃ s, s = x - p.sum := ⟨_, rfl⟩
        have hws : IntKind.i64.wrap (x - p.sum) = s := by rw [hs, IntKind.wrap_i64]; omega
        have hsb : -40 ≤ s ∧ s ≤ 63 := by omega
        have HS := Lib.hid hs
        have hlt' : (k : Int) < (lp : Int) := by omega
        have hk0 : (0 : Int) ≤ (k : Int) := by omega
        clear hps he hrp hx1 hx2 had hb2' hc1' hc2' hr1 hr2 hp hq p5 q5 pqd hs
        by_cases hs0 : 0 ≤ s
        · have hsd : decide (0 ≤ s) = true := decide_eq_true hs0
          obtain ⟨ok, hok⟩ : ∃ o, o = okP p x := ⟨_, rfl⟩
          have HOK := Lib.hid hok
          have HOE := Lib.hid (show ok = apS 0 (s :: p) from by rw [hok]; unfold okP; rw [← HS.out, decide_eq_true hs0]; rfl)
          clear hok
          go_wp2_with fail
          refine CS.out.mono ?_
          rintro e1 w2 ⟨rfl, h2⟩
          rw [h2]
          clear h2
          have bal := (Below.refl wr.heap.size wr).alloc (Nat.le_refl _) (.cells #[.int .i64 s] 2)
          have S2 := Lib.hid (show StS wr wr.heap.size (wr.alloc (.cells #[.int .i64 s] 2)) (some ⟨wr.heap.size, 0, none⟩) 1 1 [s] from ⟨own_lit wr s, bal, bal.size⟩)
          have R1a := Lib.hid (R1.out.below bal)
          have hc1a := (bal.cell (p := ad1) (Nat.lt_of_lt_of_le hb1 HG.out.size)).trans hc1
          have hc2a := (bal.cell (p := ⟨ad1.block, ad1.off + 1, none⟩) (Nat.lt_of_lt_of_le hb1 HG.out.size)).trans hc2
          have PA := Lib.hid (HP.out.below bal)
          clear bal
          go_wp2_with (at_builtin; refine wpList_joinIg (by simp [Region.wanted, yielded]) (.tmp 42) (.tmp 45) rfl rfl rfl S2.out R1a.out (by omega) ?_)
          intro A2 c2 ws hst
          have CA := apart_any A2 (1 + m1) c2 _ (s :: p) ws hst.own.rd (fun z hz => by
            rcases List.mem_cons.1 hz with rfl | hz
            · omega
            · have := P5.out.small z hz; omega) (by omega)
          rw [← HOE.out] at CA
          have CA := Lib.hid CA
          have BS := Lib.hid hst.bel
          clear hst
          go_wp2_with fail
          refine CA.out.mono ?_
          rintro e2 w3 ⟨rfl, h3⟩
          rw [h3]
          clear h3 CA hc1a hc2a PA S2 R1a
          have PSS := Lib.hid (HP.out.below BS.out)
          have GS := Lib.hid (show w1.grownBy ws (some b) from HG.out.trans ((grownBy_below BS.out).but _))
          cases ok
          · have HGn := Lib.hid (show G e = [] from by rw [HGe.out, if_neg (by rw [← HOK.out]; simp)])
            go_wp2_with fail
            go_roundw
            case rel => exact ⟨k + 1, by omega, by go_num, Lib.hid (by rw [flat_take_succ HE, HGn.out, List.append_nil]; exact PSS.out), GS⟩
            case measure => simp [intOf]; omega
          · have HGy := Lib.hid (show G e = (milW t q).map (fun z => encP (done ++ [x + deg p] ++ z)) from by
              rw [HGe.out, if_pos HOK.out.symm]; simp)
            have hdl : x + deg p ≤ 103 := by omega
            obtain ⟨y, hy⟩ : ∃ y, y = x + deg p := ⟨_, rfl⟩
            have hwy : IntKind.i64.wrap (x + deg p) = y := by rw [hy, IntKind.wrap_i64]; omega
            have hy0 : 0 ≤ y := by omega
            have HYe := Lib.hid hy
            rw [← hy] at HGy
            have KCs := Lib.hid (KC.out.trans (KeptC.of_below BS.out))
            have hs1 := fun W : World => run_full Ad nd cd D.out.cap W
            have hs2 : ∀ W : World, (Instr.sliceAt 29 (.slice (some ad) nt ct) (some (.int .i64 1)) Option.none Option.none).run Try.prog W = .ok (.slice (sufA (some ad) ct 1) (nt - 1) (ct - 1)) W := fun W => run_sufI (some ad) nt ct 1 hnt1 W
            have bal := (Below.refl ws.heap.size ws).alloc (Nat.le_refl _) (.cells #[.int .i64 y] 2)
            have zs1 : w.heap.size ≤ ws.heap.size := Nat.le_trans B1.out.size GS.out.size
            have kad := Lib.hid (show Below ws.heap.size ws (ws.alloc (.cells #[.int .i64 y] 2)).drew from below_drewN bal 1)
            have RD := Lib.hid (show RdS (ws.alloc (.cells #[.int .i64 y] 2)).drew w.heap.size Ad nd nd done from ((D1.out.full.keptC KCs.out).below (bal.mono zs1)).drewN 1)
            have RY := Lib.hid (show RdS (ws.alloc (.cells #[.int .i64 y] 2)).drew (ws.heap.size + 1) (some ⟨ws.heap.size, 0, none⟩) 1 1 [y] from (rd_new ws y _).drewN 1)
            have PW := Lib.hid (show OwnP (ws.alloc (.cells #[.int .i64 y] 2)).drew b (L ++ (PS.take k).flatMap G) from PSS.out.below kad.out)
            have GW := Lib.hid (show w1.grownBy (ws.alloc (.cells #[.int .i64 y] 2)).drew (some b) from GS.out.trans ((grownBy_below kad.out).but _))
            have TW := Lib.hid (show RdS (ws.alloc (.cells #[.int .i64 y] 2)).drew w.heap.size (sufA (some ad) ct 1) (nt - 1) (ct - 1) t from by
              have := (((T1.out.keptC KCs.out).below (bal.mono zs1)).drewN 1).suf (m := 1) hnt1
              exact this)
            have RQW := Lib.hid (show RdS (ws.alloc (.cells #[.int .i64 y] 2)).drew ws.heap.size Bq m2 c5 q from (((R2.out.below BS.out).mono BS.out.size).below bal).drewN 1)
            have HCk := Lib.hid (fun (W : World) (hk : KeptC wr W) => (show W.cell? ad1 = some (.slice Bp m1 c4) ∧ W.cell? ⟨ad1.block, ad1.off + 1, none⟩ = some (.slice Bq m2 c5) from ⟨hk.cell hc1, hk.cell hc2⟩))
            have KB := Lib.hid (KeptC.of_below BS.out)
            have KBd := Lib.hid (show KeptC wr ws.drew from KB.out.trans (KeptC.of_below (below_drewN (Below.refl ws.heap.size ws) 1)))
            have KBa := Lib.hid (show KeptC wr (ws.alloc (.cells #[.int .i64 y] 2)).drew from KB.out.trans (KeptC.of_below kad.out))
            have CD := impl.degree_any Bp m1 c4 _ p ws.drew ((R1.out.below BS.out).drewN 1) (by omega)
            rw [P5.out.degX] at CD
            have CD := Lib.hid CD
            obtain ⟨ks0, ks1⟩ := HCk.out ws KB.out
            have kd := HCk.out _ KBd.out
            have kda := HCk.out _ KBa.out
            clear bal hy
            go_upto_region 9 with fail
            clear ks0 ks1 hc1 hc2
            go_region_held3 (fun w' => w'.cell? ad1 = some (.slice Bp m1 c4) ∧ w'.cell? ⟨ad1.block, ad1.off + 1, none⟩ = some (.slice Bq m2 c5)) (first | (with_reducible exact kd) | (with_reducible exact kda) | (with_reducible exact k7) | (with_reducible exact k8) | fail)
              (first
                | (go_at_call 147
                   refine CD.out.mono ?_
                   rintro e3 u1 ⟨rfl, rfl⟩)
                | (rw [if_pos]
                   rotate_left
                   · rfl
                   refine wp_growI (.tmp 55) (.tmp 62) rfl rfl rfl RD.out HA.out RY.out (by omega) ?_
                   intro A7 c7 w7 hs7 hg7
                   have S7 := Lib.hid hs7
                   have P7 := Lib.hid (PW.out.kept hg7 (by simp))
                   have G7 := Lib.hid (GW.out.trans (hg7.but _))
                   have T7 := Lib.hid ((TW.out.grown hg7 (Nat.le_trans zs1 kad.out.size) (by intro g hg; cases hg)).mono (Nat.le_trans (Nat.le_trans zs1 kad.out.size) hg7.size))
                   have R7 := Lib.hid ((RQW.out.grown hg7 kad.out.size (by intro g hg; cases hg)).mono (Nat.le_trans kad.out.size hg7.size))
                   have K7 := Lib.hid (KBa.out.trans (KeptC.of_grown (hg7.but b) PW.out.noCells))
                   have k7 := HCk.out _ K7.out
                   have A7s := Lib.hid (show A7 = none → nd + 1 = 0 from fun e => by
                     obtain ⟨g, cap, hv, _⟩ := hs7.own.form (by omega)
                     rw [e] at hv
                     injection hv with e1
                     cases e1)
                   clear hs7 hg7)
                | (go_at_call 109
                   refine (IH.out w7 b _ A7 (sufA (some ad) ct 1) Bq (nd + 1) c7 (nt - 1) (ct - 1) m2 c5 (done ++ [y]) q P7.out S7.out.rd A7s.out T7.out R7.out Q5.out HQT.out (by
                     intro a ha
                     rcases List.mem_append.1 ha with ha | ha
                     · exact H0D.out a ha
                     · rw [List.mem_singleton.1 ha]; exact hy0) H0T.out (by rw [List.sum_append]; have := HSD.out; have := PQD.out; have := HYe.out; simp; omega) (by omega) (by
                     have h1 := HFl.out k
                     have h2 := HL.out
                     have h3 : nt - 1 = t.length := by have := HNT.out; omega
                     have h5 : 256 ^ nt = 256 * 256 ^ t.length := by rw [HNT.out, Nat.pow_succ, Nat.mul_comm]
                     have h6 : k * 256 ^ (t.length - 1) ≤ 255 * 256 ^ t.length := Nat.mul_le_mul (by omega) (Nat.pow_le_pow_right (by decide) (Nat.sub_le _ _))
                     rw [h3, List.length_append]
                     rw [h5] at h2
                     omega)).mono ?_
                   rintro e4 w8 ⟨rfl, hp8, hg8⟩
                   have P8 := Lib.hid hp8
                   have G8 := Lib.hid (G7.out.trans hg8)
                   have K8 := Lib.hid (K7.out.trans (KeptC.of_grown hg8 P7.out.noCells))
                   have k8 := HCk.out _ K8.out
                   clear hp8 hg8))
            all_goals
              go_wp2_with fail
              go_roundw
              case rel => exact ⟨k + 1, by omega, by go_num, Lib.hid (by rw [flat_take_succ HE, HGy.out, ← List.append_assoc]; exact P8.out), G8⟩
              case measure => simp [intOf]; omega
        · have hsd : decide (0 ≤ s) = false := decide_eq_false hs0
          have HGn := Lib.hid (show G e = [] from by
            rw [HGe.out, if_neg]
            unfold okP
            rw [← HS.out, hsd]
            simp)
          go_wp2_with fail
          refine CS.out.mono ?_
          rintro e1 w2 ⟨rfl, h2⟩
          rw [h2]
          clear h2
          go_wp2_with fail
          go_roundw
          case rel => exact ⟨k + 1, by omega, by go_num, Lib.hid (by rw [flat_take_succ HE, HGn.out, List.append_nil]; exact HP.out), HG⟩
          case measure => simp [intOf]; omega
      · obtain rfl : k = lp := by omega
        have HPF := Lib.hid (show OwnP wr b (L ++ PS.flatMap G) from by
          have h1 := HP.out
          rwa [List.take_of_length_le (by rw [HLP.out]; exact Nat.le_refl _)] at h1)
        go_wp2_with fail
        go_end0
        rw [HR.out]
        exact RetTw.mk HPF.out (Par.refl _) (G1.out.trans HG.out)
end Go.Proofs.Ytejlkobieohgfaa
