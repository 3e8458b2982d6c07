/- EilenbergCounts on both sides. -/
import Derived.Test.YtgoefodemjelaaaAlg
import Derived.Deep.RegionWith
import Derived.Deep.DeepCutAuto
namespace Go.Proofs.Ytgoefodemjelaaa
open Go.RowKit
set_option linter.unusedVariables false

theorem freeL_high (e : Nat) (ex : Int) {d k : Nat} (h : e + k ≤ d) : (freeL e ex d)[e + k]? = some (cntW ex k : Int) := by
  simp only [freeL, List.getElem?_map, List.getElem?_range (show e + k < d + 1 by omega), Option.map_some]
  rw [if_pos (by omega), Nat.add_sub_cancel_left]

theorem own_made (w : World) (B n : Nat) (hB : B ≤ w.heap.size) (hn : n ≤ maxLen) : OwnS (w.alloc (.cells (madeCells #[.int .i64 0] n) 2)) B (some ⟨w.heap.size, 0, none⟩) n n (List.replicate n 0) :=
  ⟨by simp, by simp, .inr ⟨w.heap.size, n, madeCells #[.int .i64 0] n, rfl, hB, heap_alloc_new w _, Nat.le_refl _, hn, by simp [size_madeCells], by simp [toList_madeCells_one]⟩⟩
theorem lt_alloc (w : World) (o : Obj) : w.heap.size < (w.alloc o).heap.size := by simp
set_option maxHeartbeats 400000 in
theorem sEilenbergCounts_yes (n d : Nat) (w : World) (h : okR 1 20 n d = true) : Calls Try.prog 42 #[.int .i64 n, .int .i64 d] w (RetSC (d + 1) (faX n d) 0 w) := by
  obtain ⟨i0, hi, hz0, hz1, hz2⟩ := info_parts Try.info_i64
  have hp : inB n 1 20 = true ∧ inB d 0 40 = true := by simpa [okR] using h
  have hk := inB_iff.1 hp.1
  have hd := inB_iff.1 hp.2
  have Hk := Lib.hid hp.1
  have Hd := Lib.hid hp.2
  obtain ⟨G, hG⟩ : ∃ G, G = freeL n ((n : Int) - 1) d := ⟨_, rfl⟩
  obtain ⟨X, hX⟩ : ∃ X, X = monoX G := ⟨_, rfl⟩
  rw [show faX n d = X by rw [hX, hG]; rfl]
  have HGG := Lib.hid hG
  have HGl := Lib.hid (show G.length = d + 1 by rw [hG, freeL_length])
  have HM := Lib.hid (freeL_mem n ((n : Int) - 1) d (by omega))
  have HL := Lib.hid (freeL_low n ((n : Int) - 1) d)
  rw [← hG] at HM HL
  have HXG : Hid (monoAt (d + 1) (G.drop n) n (oneL (d + 1)) = X) := Lib.hid (by
    rw [hX, monoX, HGl.out, monoAt_skip _ n G _ HL.out])
  obtain ⟨m, hm⟩ : ∃ m : Nat, m = d - n := ⟨_, rfl⟩
  obtain ⟨L, hL⟩ : ∃ L, L = l17L ((n : Int) - 1) m := ⟨_, rfl⟩
  have HLL := Lib.hid hL
  have HC : Hid (∀ (y x : Int) (w : World), y = (n : Int) - 1 → x = m → Calls Try.prog 67 #[.int .i64 y, .int .i64 x] w (RetO (m + 1) L w)) := Lib.hid (by
    intro y x w hy hx; subst hy; subst hx; rw [hL]; exact l17Counts_any m _ w (by omega))
  have hmk : ∀ w : World, (Instr.makeSlice 22 (.int .i64 ((d : Int) + 1)) (.int .i64 ((d : Int) + 1))).run Try.prog w = .ok (.slice (some ⟨w.heap.size, 0, none⟩) (d + 1) (d + 1)) (w.alloc (.cells (madeCells #[.int .i64 0] (d + 1)) 2)) := fun w => by
    have h1 := run_make (P := Try.prog) (w := w) 22 2 i0 (.int .i64 0) Try.underlying22 hi hz0 .i64 .i64 ((d : Int) + 1) ((d : Int) + 1) (by omega) (Int.le_refl _) (by rw [hz2]; omega) (by omega)
    rw [h1, hz1, show ((d : Int) + 1).toNat = d + 1 from by omega, Nat.mul_one]
    rfl
  have hif : (if 0 < IntKind.i64.wrap ((d : Int) - (n : Int)) then IntKind.i64.wrap ((d : Int) - (n : Int)) else 0) = (m : Int) := by
    rw [IntKind.wrap_i64]; split <;> omega
  have hwd : IntKind.i64.wrap ((n : Int) - 1) = (n : Int) - 1 := by rw [IntKind.wrap_i64]; omega
  have hmk2 := hmk
  rw [show (d : Int) + 1 = IntKind.i64.wrap ((d : Int) + 1) by rw [IntKind.wrap_i64]; omega] at hmk2
  have HMm := Lib.hid hm
  clear hm hp h hG hX hL hi hz0 hz1 hz2 i0
  go_enter Try.func42, Try.ntmps42
  go_wp2_with fail
  refine (l01In_any _ _ _ _).mono ?_
  rintro e w' ⟨rfl, rfl⟩
  rw [Hk.out]
  go_wp2_with fail
  refine (l01In_any _ _ _ _).mono ?_
  rintro e w' ⟨rfl, rfl⟩
  rw [Hd.out]
  obtain ⟨B, hB⟩ : ∃ B, B = w'.heap.size := ⟨_, rfl⟩
  have HBe := Lib.hid hB; clear hB
  go_upto_region 3 with fail
  go_cut [6, 7] (fun a b wc => ∃ (g : Nat) (A1 : Option Addr) (c1 : Nat), a = .slice A1 (m + 1) c1 ∧ b = .slice (some ⟨g, 0, none⟩) (d + 1) (d + 1) ∧ Hid (OwnS wc B A1 (m + 1) c1 L) ∧ Hid (OwnS wc B (some ⟨g, 0, none⟩) (d + 1) (d + 1) (List.replicate (d + 1) 0)) ∧ Hid (∀ ad, A1 = some ad → ad.block ≠ g) ∧ Hid (Below B w' wc))
  case first =>
    go_region_with (go_at_call 67; refine (HC.out _ _ _ (by first | rfl | (simp only [IntKind.wrap_i64]; omega)) (by first | rfl | omega)).mono ?_; rintro e w1 ⟨A1, c1, rfl, ho1, hb1⟩)
    all_goals
      go_wp2_with fail
      go_meet
      have hB0 := HBe.out
      have hml : d + 1 ≤ maxLen := by unfold maxLen; omega
      first
        | exact ⟨w1.heap.size, A1, c1, rfl, rfl, Lib.hid ((ho1.mono (B' := B) (Nat.le_of_eq hB0)).alloc _), Lib.hid (own_made w1 B (d + 1) (by rw [hB0]; exact hb1.size) hml), Lib.hid (fun ad had => Nat.ne_of_lt (ho1.lt had).2),
            Lib.hid (by rw [hB0]; exact ((Below.refl _ w').drew.trans hb1).alloc hb1.size _)⟩
        | exact ⟨w'.heap.size, A1, c1, rfl, rfl, Lib.hid (ho1.mono (B' := B) (by rw [hB0]; exact Nat.le_of_lt (lt_alloc w' _))), Lib.hid ((own_made w' B (d + 1) (Nat.le_of_eq hB0) hml).drew.below hb1),
            Lib.hid (fun ad had e => by have h1 := (ho1.lt had).1; rw [e] at h1; exact Nat.not_le_of_gt (lt_alloc w' _) h1),
            Lib.hid (by rw [hB0]; exact (((Below.refl _ w').alloc (Nat.le_refl _) _).drew).trans (hb1.mono (Nat.le_of_lt (lt_alloc w' _))))⟩
  case rest =>
    obtain ⟨g, A1, c1, rfl, rfl, HL1, HO, HN, HB⟩ := hcut
    clear hmk hmk2 hif hwd
    obtain ⟨g', x, hg', hBg, _, _, hc0, hf0, hset⟩ := HO.out.at_ (show 0 < d + 1 by omega)
    obtain rfl : g = g' := by simpa using hg'
    have HO1 : Hid (OwnS (wc.setCell ⟨g, 0, none⟩ (.int .i64 1)) B (some ⟨g, 0, none⟩) (d + 1) (d + 1) (oneL (d + 1))) := Lib.hid (hset 1).1
    have HL2 := Lib.hid (HL1.out.grown (hset 1).2 (fun ad had e => HN.out ad had (by injection e)))
    have HB1 := Lib.hid (HB.out.setCell (p := ⟨g, 0, none⟩) hBg (.int .i64 1))
    clear hset hg' HO HL1 HB
    go_wp2_with fail
    clear hc0 hf0
    go_loopw [8] (fun r wr => ∃ (i : Nat) (xs : List Int), n ≤ i ∧ i ≤ 41 ∧ r = .int .i64 i ∧ OwnS wr B (some ⟨g, 0, none⟩) (d + 1) (d + 1) xs ∧ OwnS wr B A1 (m + 1) c1 L ∧ Below B w' wr ∧ Hid (monoAt (d + 1) (G.drop i) i xs = X)) (fun r _ => 100 - (intOf r).toNat)
    case atStart => exact ⟨n, _, by omega, by omega, rfl, HO1.out, HL2.out, HB1.out, HXG⟩
    case round =>
      clear HO1 HL2 HB1
      obtain ⟨i, xs, hni, hi, rfl, HO, HL0, HB, HC2⟩ := hrel
      have HO1 := Lib.hid HO; clear HO
      have HL2 := Lib.hid HL0; clear HL0
      have HB1 := Lib.hid HB; clear HB
      by_cases hid : i ≤ d
      · obtain ⟨k, rfl⟩ : ∃ k, i = n + k := ⟨i - n, by omega⟩
        have hkm : k < m + 1 := by have := HMm.out; omega
        obtain ⟨ad, v, rfl, _, hv, hcv⟩ := HL2.out.rd.at_ (k := k) hkm
        have hvv : v = (cntW ((n : Int) - 1) k : Int) := l17L_get _ (d := m) (by have := HMm.out; omega) (by rw [← HLL.out]; exact hv)
        have hvb : cntW ((n : Int) - 1) k ≤ 1099511627776 := cntW_le _ k (by omega)
        obtain ⟨q, hq⟩ : ∃ q, q = cntW ((n : Int) - 1) k := ⟨_, rfl⟩
        rw [← hq] at hvv hvb
        have HC3 : Hid (monoAt (d + 1) (G.drop (n + k + 1)) (n + k + 1) (timesIt (d + 1) (n + k) q xs) = X) := Lib.hid (by
          have h1 := HC2.out
          have hm := freeL_high n ((n : Int) - 1) hid
          rw [← HGG.out, ← hq] at hm
          obtain ⟨hk', hmk⟩ := List.getElem?_eq_some_iff.1 hm
          rw [List.drop_eq_getElem_cons hk', hmk, monoAt] at h1
          exact h1)
        clear hv hq
        subst hvv
        go_wp2_with fail
        clear hcv
        obtain ⟨w0, hw0⟩ : ∃ w0 : World, w0 = wr := ⟨_, rfl⟩
        clear hw0
        go_loopw [9] (fun r wr => ∃ (j : Nat) (ys : List Int), j ≤ q ∧ r = .int .i64 j ∧ OwnS wr B (some ⟨g, 0, none⟩) (d + 1) (d + 1) ys ∧ OwnS wr B (some ad) (m + 1) c1 L ∧ Below B w' wr ∧ Hid (timesIt (d + 1) (n + k) j ys = timesIt (d + 1) (n + k) q xs)) (fun r _ => (intOf r).toNat)
        case atStart => exact ⟨q, xs, by omega, rfl, HO1.out, HL2.out, HB1.out, Lib.hid rfl⟩
        case round =>
          clear HO1 HB1 HL2
          obtain ⟨j, ys, hj, rfl, HO, HL0, HB, HT⟩ := hrel
          have HO1 := Lib.hid HO; clear HO
          have HL2 := Lib.hid HL0; clear HL0
          have HB1 := Lib.hid HB; clear HB
          rcases Nat.eq_zero_or_pos j with rfl | hpos
          · have h3 := HT.out
            rw [timesIt] at h3
            have H3 := Lib.hid h3; clear h3
            go_wp2_with fail
            go_roundw
            case rel => exact ⟨n + k + 1, ys, by omega, by omega, by go_num, HO1.out, HL2.out, HB1.out, Lib.hid (by rw [H3.out]; exact HC3.out)⟩
            case measure => simp [intOf]; omega
          · obtain ⟨j, rfl⟩ : ∃ q, j = q + 1 := ⟨j - 1, by omega⟩
            go_wp2_with fail
            obtain ⟨w00, hw00⟩ : ∃ w0 : World, w0 = wr := ⟨_, rfl⟩
            clear hw00
            go_loopw [10] (fun r wr => ∃ (i : Nat) (zs : List Int), n + k ≤ i ∧ i ≤ d + 1 ∧ r = .int .i64 i ∧ OwnS wr B (some ⟨g, 0, none⟩) (d + 1) (d + 1) zs ∧ OwnS wr B (some ad) (m + 1) c1 L ∧ Below B w' wr ∧ Hid (addFrom (n + k) (d + 1) zs i = addFrom (n + k) (d + 1) ys (n + k))) (fun r _ => d + 1 - (intOf r).toNat)
            case atStart => exact ⟨n + k, ys, by omega, by omega, by go_num, HO1.out, HL2.out, HB1.out, Lib.hid rfl⟩
            case round =>
              clear HO1 HB1 HL2
              obtain ⟨i, zs, hki, hin, rfl, HO, HL0, HB, HA⟩ := hrel
              by_cases hlti : i < d + 1
              · obtain ⟨g', x, y, hg', hBg', hcx, hcy, hfx, hx, hy, hset⟩ := HO.two (p := n + k) hlti
                obtain rfl : g = g' := by simpa using hg'
                have HO2 := Lib.hid (hset (wrap64 (x + y)))
                rw [← addP_of hx hy] at HO2
                have HA2 := Lib.hid ((addFrom_step hlti).symm.trans HA.out)
                obtain ⟨g2, _, hg2, _, _, _, _, _, hset2⟩ := HO.at_ hlti
                obtain rfl : g = g2 := by simpa using hg2
                have HL2 := Lib.hid (HL0.grown (hset2 (wrap64 (x + y))).2 (fun ad had e => HN.out ad had (by injection e)))
                have HB2 := Lib.hid (HB.setCell (p := ⟨g, i, none⟩) hBg' (.int .i64 (wrap64 (x + y))))
                clear hset hset2 HO HA hg' hg2 HL0 HB
                go_wp2_with fail
                go_region
                go_wp2_with fail
                go_roundw
                case rel => exact ⟨i + 1, _, by omega, by omega, by go_num, HO2.out.drew, HL2.out.drew, HB2.out.drew, HA2⟩
                case measure => simp [intOf]; omega
              · have HO2 := Lib.hid HO; clear HO
                have HL2 := Lib.hid HL0; clear HL0
                have HB2 := Lib.hid HB; clear HB
                have h3 := HA.out
                rw [addFrom_end (by omega)] at h3
                have H3 := Lib.hid h3; clear h3
                go_wp2_with fail
                go_roundw
                case rel => exact ⟨j, zs, by omega, by go_num, HO2.out, HL2.out, HB2.out, Lib.hid (by rw [H3.out]; have h4 := HT.out; rw [timesIt] at h4; exact h4)⟩
                case measure => simp [intOf]
      · have h3 := HC2.out
        rw [List.drop_of_length_le (by rw [HGl.out]; omega), monoAt] at h3
        have H3 := Lib.hid h3; clear h3
        go_wp2_with fail
        go_ret2
        exact RetSC.mk (k' := 0) rfl rfl (HBe.out ▸ HO1.out) H3.out (HBe.out ▸ HB1.out)
theorem EilenbergCounts_both (n d : Int) (_wk : (Lit.int .i64 n).wf = true) (_wd : (Lit.int .i64 d).wf = true) : ∃ (l : Nat) (xs : List Int) (c : Int), l ≤ 1000000 ∧
    (∀ w, Calls Try.prog 42 #[.int .i64 n, .int .i64 d] w (RetSC l xs c w)) ∧ (∀ w, Calls Try.prog 43 #[.int .i64 n, .int .i64 d] w (RetSC l xs c w)) := by
  cases h : okR 1 20 n d
  · exact ⟨0, [], 2, by omega, fun w => sEilenbergCounts_no n d w h, fun w => iEilenbergCounts_no n d w h⟩
  · have hp : inB n 1 20 = true ∧ inB d 0 40 = true := by simpa [okR] using h
    have hk := inB_iff.1 hp.1
    have hd := inB_iff.1 hp.2
    obtain ⟨n, rfl⟩ := Int.eq_ofNat_of_zero_le (show 0 ≤ n by omega)
    obtain ⟨d, rfl⟩ := Int.eq_ofNat_of_zero_le (show 0 ≤ d by omega)
    exact ⟨d + 1, faX n d, 0, by omega, fun w => sEilenbergCounts_yes n d w h, fun w => iEilenbergCounts_yes n d w h⟩
end Go.Proofs.Ytgoefodemjelaaa
