/- The steps of regions that draw their order: a list pushed. -/
import Derived.Test.YtgmbbpaokcjnhaaGreatDoorStep
import Derived.Test.YtgmbbpaokcjnhaaGreatDoorLamW
import Derived.Test.YtgmbbpaokcjnhaaGreatDoorMulL
namespace Go.Proofs.YtgmbbpaokcjnhaaGreatDoor
open Go.RowKit
set_option linter.unusedVariables false

end Go.Proofs.YtgmbbpaokcjnhaaGreatDoor

/- impl.differential. -/
namespace Go.Proofs.YtgmbbpaokcjnhaaGreatDoor
open Go.RowKit
set_option linter.unusedVariables false

theorem rdV_new3 (w : World) (u v x : Value) (E : TypeId) : RdV (w.alloc (.cells #[u, v, x] E)) (w.heap.size + 1) (some ⟨w.heap.size, 0, Option.none⟩) 3 3 [u, v, x] :=
  ⟨rfl, Nat.le_refl _, fun j hj => ⟨_, rfl, Nat.lt_succ_self _, by
    have : j = 0 ∨ j = 1 ∨ j = 2 := by simp at hj; omega
    rcases this with rfl | rfl | rfl <;> simp [Addr.add]⟩⟩
theorem rdL_three {w : World} {B n1 c1 n2 c2 n3 c3 : Nat} {A1 A2 A3 : Option Addr} {x y z : List Int} (h1 : RdS w B A1 n1 c1 x) (h2 : RdS w B A2 n2 c2 y) (h3 : RdS w B A3 n3 c3 z) (hB : B ≤ w.heap.size) {H : Nat} (hH : w.heap.size = H) :
    RdL (w.alloc (.cells #[.slice A1 n1 c1, .slice A2 n2 c2, .slice A3 n3 c3] 35)) (w.alloc (.cells #[.slice A1 n1 c1, .slice A2 n2 c2, .slice A3 n3 c3] 35)).heap.size (some ⟨H, 0, none⟩) 3 3 [x, y, z] := by
  subst hH
  have hb : Below w.heap.size w (w.alloc (.cells #[.slice A1 n1 c1, .slice A2 n2 c2, .slice A3 n3 c3] 35)) := (Below.refl _ _).alloc (Nat.le_refl _) _
  refine ⟨rfl, _, (rdV_new3 w (.slice A1 n1 c1) (.slice A2 n2 c2) (.slice A3 n3 c3) _).mono (by simp), fun j v xs hv hx => ?_⟩
  have hj : j < 3 := by
    have := (List.getElem?_eq_some_iff.1 hx).1
    simpa using this
  have : j = 0 ∨ j = 1 ∨ j = 2 := by omega
  rcases this with rfl | rfl | rfl <;> simp at hv hx <;> subst hv <;> subst hx
  · exact ⟨_, _, _, rfl, ((h1.mono hB).below hb).mono hb.size⟩
  · exact ⟨_, _, _, rfl, ((h2.mono hB).below hb).mono hb.size⟩
  · exact ⟨_, _, _, rfl, ((h3.mono hB).below hb).mono hb.size⟩

theorem dTo_len5 {x : List Int} {k : Nat} {n : Int} (h : n ≤ 11) : (genW n).length ≤ 5 := by
  have := genTo_len n (genM n)
  unfold genW genM at *
  omega

set_option maxRecDepth 100000 in
set_option maxHeartbeats 2000000 in
theorem iDif_any (A : Option Addr) (n c B : Nat) (xss : List (List Int)) (w : World) (h : RdL w B A n c xss) (hB : B ≤ w.heap.size) (hn : n ≤ 2000) (hw : ∀ x ∈ xss, okW x ∧ x.length ≤ 6) :
    Calls Tryz.prog 48 #[.slice A n c] w (RetL (formL (dAll xss)).length (formL (dAll xss)) w) := by
  have hst := StL.start (Below.refl w.heap.size w) (Nat.le_refl _)
  obtain ⟨V, hV⟩ : ∃ V, V = w.heap.size := ⟨_, rfl⟩
  rw [← hV] at hst
  have H := Lib.hid (h.mono (show B ≤ V by rw [hV]; exact hB))
  have L1 := Lib.hid h.len
  clear h
  have XW := Lib.hid hw
  have HAll := Lib.hid (dAll_okW hw)
  have HVe := Lib.hid hV; clear hV
  have HS := Lib.hid hst.here; clear hst hw
  go_enter Tryz.func48, Tryz.ntmps48
  go_wp2_with fail
  rw [← HVe.out]
  go_loopw [3, 12] (fun o i wr => ∃ (k l' c' : Nat) (A' : Option Addr) (acc : List (List Int)), k ≤ n ∧ i = .int .i64 k ∧ o = .slice A' l' c' ∧ l' ≤ k * 30 ∧ Hid (acc = dAll (xss.take k)) ∧ Hid (StL w V wr wr.heap.size A' l' c' acc)) (fun _ i _ => n - (intOf i).toNat)
  case atStart => exact ⟨0, 0, 0, _, [], Nat.zero_le _, rfl, rfl, Nat.zero_le _, Lib.hid (by simp [dAll]), by rw [HVe.out]; rw [HVe.out] at HS; exact HS⟩
  case round =>
    clear HS
    obtain ⟨k, l', c', A', acc, hk, rfl, rfl, hl30, HA, HS⟩ := hrel
    by_cases hlt : k < n
    · obtain ⟨ad, A3, n3, c3, x, rfl, hbk, hx, hcw, hr⟩ := H.out.at_ hlt
      have Hok := Lib.hid (XW.out x (List.mem_of_getElem? hx.out))
      have hn3 : n3 ≤ 6 := by rw [← hr.len]; exact Hok.out.2
      have HL3 := Lib.hid hr.len
      have R3 := Lib.hid hr; clear hr
      have hc := (HS.out.bel.cell (p := ad.add k) (by rw [block_of_add]; exact hbk)).trans hcw
      clear hcw hbk
      go_wp2_with fail
      go_loopw [3, 18] (fun o i wr => ∃ (m l2 c2 : Nat) (A2 : Option Addr) (acc2 : List (List Int)), m ≤ n3 ∧ i = .int .i64 m ∧ o = .slice A2 l2 c2 ∧ l2 ≤ k * 30 + m * 5 ∧ Hid (acc2 = dAll (xss.take k) ++ dTo x m) ∧ Hid (StL w V wr wr.heap.size A2 l2 c2 acc2)) (fun _ i _ => n3 - (intOf i).toNat)
      case atStart => exact ⟨0, l', c', A', acc, Nat.zero_le _, rfl, rfl, by omega, Lib.hid (by simpa [dTo] using HA.out), HS⟩
      case round =>
        clear HS HA
        obtain ⟨m, l2, c2, A2, acc2, hm, rfl, rfl, hl5, HA2, HS⟩ := hrel
        by_cases hml : m < n3
        · obtain ⟨ad3, nk, rfl, hbk3, hxk, hck⟩ := (R3.out.below HS.out.bel).at_ hml
          obtain ⟨hnk, hnk2⟩ := at_nonN hxk.out Hok.out.1
          obtain ⟨M, hM⟩ : ∃ M, M = genM nk := ⟨_, rfl⟩
          have hMn : 2 * (M : Int) ≤ nk ∧ nk < 2 * (M : Int) + 2 := by rw [hM]; unfold genM; omega
          have HW : Hid (genW nk = genTo nk M) := Lib.hid (by rw [hM]; rfl)
          have hMl : M ≤ 5 := by omega
          have hm3 : (m : Int) < (n3 : Int) := by omega
          clear hM
          go_wp2_with fail
          go_loopw [3, 8] (fun o i wr => ∃ (p l5 c5 : Nat) (A5 : Option Addr) (acc5 : List (List Int)), p ≤ M ∧ i = .int .i64 ((p : Int) + 1) ∧ o = .slice A5 l5 c5 ∧ l5 ≤ l2 + p ∧ Hid (acc5 = acc2 ++ putAt x m (genTo nk p)) ∧ Hid (StL w V wr wr.heap.size A5 l5 c5 acc5)) (fun _ i _ => M + 1 - (intOf i).toNat)
          case atStart => exact ⟨0, l2, c2, A2, acc2, Nat.zero_le _, rfl, rfl, by omega, Lib.hid (by simp [putAt, genTo]), HS⟩
          case round =>
            clear HS
            obtain ⟨p, l5, c5, A5, acc5, hp, rfl, rfl, hlp, HA5, HS⟩ := hrel
            by_cases hpl : p < M
            · have hle : decide (2 * ((p : Int) + 1) ≤ nk) = true := by simp; omega
              have Hp := fun W : World => Lib.hid (choose_any (nk - ((p : Int) + 1)) ((p : Int) + 1) W (by omega) (by omega) (by omega) (by omega))
              cases hc : genC nk p
              · have hc2 : parB (nk - ((p : Int) + 1)) ((p : Int) + 1) = false := hc
                have HG := Lib.hid (genTo_no hc)
                rw [hc2] at Hp
                clear hc hc2
                go_wp2_with fail
                refine ((Hp _).out).mono ?_
                rintro e w1 ⟨rfl, rfl⟩
                go_wp2_with fail
                go_roundw
                case rel => exact ⟨p + 1, l5, c5, A5, acc5, by omega, by go_num, rfl, by omega, Lib.hid (by rw [HG.out]; exact HA5.out), HS⟩
                case measure => simp [intOf]; omega
              · have hc2 : parB (nk - ((p : Int) + 1)) ((p : Int) + 1) = true := hc
                have HG := Lib.hid (genTo_yes hc)
                rw [hc2] at Hp
                clear hc hc2
                go_wp2_with fail
                refine ((Hp _).out).mono ?_
                rintro e w1 ⟨rfl, rfl⟩
                go_wp2_with fail
                obtain ⟨m1, hm1⟩ : ∃ i, i = m + 1 := ⟨_, rfl⟩
                have hm1n : m1 ≤ n3 := by omega
                have hwa : IntKind.i64.wrap (nk - ((p : Int) + 1)) = nk - ((p : Int) + 1) := by rw [IntKind.wrap_i64]; omega
                have hwb : IntKind.i64.wrap (p : Int) = (p : Int) := by rw [IntKind.wrap_i64]; omega
                have HRw := Lib.hid ((R3.out.below HS.out.bel).mono HS.out.size)
                have hsl1 := fun W => run_pre (some ad3) n3 c3 m (by have := HRw.out.cap; omega) W
                have hsl2 := fun W => run_suf1 (some ad3) n3 c3 m m1 hm1 hm1n W
                have hwk : IntKind.i64.wrap ((m : Int) + 1) = (m1 : Int) := by
                  rw [IntKind.wrap_i64]; omega
                have HRs := Lib.hid (HRw.out.suf hm1n)
                obtain ⟨A9, hA9⟩ : ∃ A9, A9 = sufA (some ad3) c3 m1 := ⟨_, rfl⟩
                simp only [← hA9] at hsl2 HRs
                have hif : (if c3 = m1 then some ad3 else some (ad3.add m1)) = A9 := by rw [hA9]; simp [sufA]
                clear hA9
                have HM1 := Lib.hid hm1
                have hm0 : (0 : Int) ≤ (m : Int) := by omega
                have hsub : (p : Int) + 1 - 1 = (p : Int) := by omega
                clear hm1
                go_wp2_with fail
                have HO := Lib.hid (show Below w1.heap.size w1 (w1.alloc (.cells #[.int .i64 (nk - ((p : Int) + 1)), .int .i64 (p : Int)] 2)) from (Below.refl _ _).alloc (Nat.le_refl _) _)
                have H3 := Lib.hid ((rdL_three (H := w1.heap.size + 1) ((HRw.out.below HO.out).mono HO.out.size |>.pre (Nat.le_of_lt hml)) (two_own (w := w1) (a := nk - ((p : Int) + 1)) (b := (p : Int))).rd ((HRs.out.below HO.out).mono HO.out.size) (Nat.le_refl _) (by simp)).drewN 1)
                obtain ⟨wq, hwq⟩ : ∃ W : World, W = ((w1.alloc (.cells #[.int .i64 (nk - ((p : Int) + 1)), .int .i64 (p : Int)] 2)).alloc (.cells #[.slice (some ad3) m c3, .slice (some ⟨w1.heap.size, 0, none⟩) 2 2, .slice A9 (n3 - m1) (c3 - m1)] 35)).drew := ⟨_, rfl⟩
                have HXq := Lib.hid (show Ext w1 wq by rw [hwq]; exact below_drewN (HO.out.alloc HO.out.size _) 1)
                have hTot : totalL [x.take m, [nk - ((p : Int) + 1), (p : Int)], x.drop m1] = m + 2 + (n3 - m1) := by
                  simp [totalL, List.length_take, List.length_drop, HL3.out]
                  omega
                have HT := Lib.hid hTot
                clear hTot
                have hc0 : (3 : Nat) ≤ 1000000 := by omega
                have hc1 : totalL [x.take m, [nk - ((p : Int) + 1), (p : Int)], x.drop m1] ≤ 1000000000 := by rw [HT.out]; omega
                have hc2 : 1 ≤ totalL [x.take m, [nk - ((p : Int) + 1), (p : Int)], x.drop m1] := by rw [HT.out]; omega
                have hc3 : l5 ≤ 3000000000000 := by omega
                have hc1 := Lib.hid hc1
                have hc2 := Lib.hid hc2
                go_region_held3 (fun w' => 0 ≤ w'.heap.size) (exact Nat.zero_le _)
                  (first
                    | (go_at_call 72
                       have Hcc := concat_any _ 3 3 _ _ _ H3.out (Nat.le_refl _) hc0 hc1.out hc2.out
                       refine Hcc.mono ?_
                       rintro e u1 ⟨A6, c6, rfl, ho6, hb6⟩
                       have hb7 : Ext wq u1 := by rw [hwq]; exact hb6
                       have HX6 := Lib.hid (Ext.trans HXq.out hb7)
                       have hz6 : w1.heap.size ≤ wq.heap.size := HXq.out.size
                       rw [hwq] at hz6
                       have N6 := Lib.hid (ho6.mono hz6)
                       have HS6 := Lib.hid (HS.out.call HX6.out)
                       clear ho6 hb6)
                    | (refine step_pushL (by rfl) (.tmp 35) (.tmp 51) rfl rfl rfl rfl HS6.out N6.out hc3 ?_
                       intro A7 c7 w7 hs7 _ _
                       have HS7 := Lib.hid hs7
                       clear hs7))
                have HA6 : Hid (acc5 ++ [[x.take m, [nk - ((p : Int) + 1), (p : Int)], x.drop m1].flatten] = acc2 ++ putAt x m (genTo nk (p + 1))) := Lib.hid (by
                  rw [HG.out, putAt_append, putAt_one, HA5.out, HM1.out]
                  simp)
                rw [HA6.out] at HS7
                go_wp2_with fail
                go_roundw
                case rel => exact ⟨p + 1, l5 + 1, c7, A7, _, by omega, by go_num, rfl, by omega, Lib.hid rfl, HS7⟩
                case measure => simp [intOf]; omega
            · obtain rfl : p = M := by omega
              have hle : decide (2 * ((p : Int) + 1) ≤ nk) = false := by simp; omega
              have HA6 : Hid (acc5 = dAll (xss.take k) ++ dTo x (m + 1)) := Lib.hid (by
                rw [HA5.out, dTo_succ hxk.out, HW.out, HA2.out, List.append_assoc])
              go_wp2_with fail
              go_roundw
              case rel => exact ⟨m + 1, l5, c5, A5, acc5, by omega, by go_num, rfl, by omega, HA6, HS⟩
              case measure => simp [intOf]; omega
        · obtain rfl : m = n3 := by omega
          have HA6 : Hid (acc2 = dAll (xss.take (k + 1))) := Lib.hid (by rw [dAll_succ hx.out, HL3.out]; exact HA2.out)
          go_wp2_with fail
          go_roundw
          case rel => exact ⟨k + 1, l2, c2, A2, acc2, by omega, by go_num, rfl, by omega, HA6, HS⟩
          case measure => simp [intOf]; omega
    · obtain rfl : k = n := by omega
      have HF : Hid (acc = dAll xss) := Lib.hid (by rw [HA.out, List.take_of_length_le (by rw [L1.out]; exact Nat.le_refl _)])
      have Hf := Lib.hid (lamForm_any A' l' c' _ acc _ HS.out.rd (Nat.le_refl _) (by omega) (by rw [HF.out]; exact HAll.out))
      go_wp2_with fail
      refine Hf.out.mono ?_
      rintro e w5 ⟨A6, c6, rfl, ho6, hb6⟩
      have h9 : Hid (StL w V w5 w5.heap.size A6 (formL acc).length c6 (formL acc)) := Lib.hid ⟨ho6.mono HS.out.size (Nat.le_refl _), HS.out.bel.trans (hb6.mono HS.out.size), Nat.le_trans HS.out.size hb6.size, Nat.le_refl _⟩
      clear ho6 hb6
      go_wp2_with fail
      go_ret
      have h8 := h9.out
      rw [HVe.out] at h8
      exact RetL.mk (by rw [HF.out]) (by rw [HF.out]) h8
end Go.Proofs.YtgmbbpaokcjnhaaGreatDoor
