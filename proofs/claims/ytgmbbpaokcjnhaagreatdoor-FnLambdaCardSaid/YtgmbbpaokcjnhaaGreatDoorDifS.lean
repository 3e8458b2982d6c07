/- spec.l16Differential. -/
import Derived.Test.YtgmbbpaokcjnhaaGreatDoorMulL
namespace Go.Proofs.YtgmbbpaokcjnhaaGreatDoor
open Go.RowKit
set_option linter.unusedVariables false

set_option maxRecDepth 100000 in
set_option maxHeartbeats 2000000 in
theorem sDif_any (A : Option Addr) (n c B : Nat) (xss : List (List Int)) (w : World) (h : RdL w B A n c xss) (hB : B ≤ w.heap.size) (hn : n ≤ 1000000) (hw : ∀ x ∈ xss, okW x ∧ x.length ≤ 6) :
    Calls Tryz.prog 49 #[.slice A n c] w (RetL (formL (dAll xss)).length (formL (dAll xss)) w) := by
  have hst := StL.start (Below.refl w.heap.size w) (Nat.le_refl _)
  obtain ⟨V, hV⟩ : ∃ V, V = w.heap.size := ⟨_, rfl⟩
  rw [← hV] at hst
  have H := Lib.hid (h.mono (show B ≤ V by rw [hV]; exact hB))
  have L1 := Lib.hid h.len
  clear h
  have XW := Lib.hid hw
  have HVe := Lib.hid hV; clear hV
  have HS := Lib.hid hst.here; clear hst hw
  go_enter Tryz.func49, Tryz.ntmps49
  go_wp2_with fail
  rw [← HVe.out]
  go_loopw [3, 4] (fun o i wr => ∃ (k l' c' : Nat) (A' : Option Addr) (acc : List (List Int)), k ≤ n ∧ i = .int .i64 k ∧ o = .slice A' l' c' ∧ Hid (SumQ (dAll (xss.take k)) acc) ∧ Hid (StL w V wr wr.heap.size A' l' c' acc)) (fun _ i _ => n - (intOf i).toNat)
  case atStart => exact ⟨0, 0, 0, _, [], Nat.zero_le _, rfl, rfl, Lib.hid SumQ.start, by rw [HVe.out]; rw [HVe.out] at HS; exact HS⟩
  case round =>
    clear HS
    obtain ⟨k, l', c', A', acc, hk, rfl, rfl, HA, HS⟩ := hrel
    by_cases hlt : k < n
    · obtain ⟨ad, A3, n3, c3, x, rfl, hbk, hx, hcw, hr⟩ := H.out.at_ hlt
      have Hok := Lib.hid (XW.out x (List.mem_of_getElem? hx.out))
      have hn3 : n3 ≤ 6 := by rw [← hr.len]; exact Hok.out.2
      have HL3 := Lib.hid hr.len
      have R3 := Lib.hid hr; clear hr
      have hbx : (ad.add k).block < V := by rw [block_of_add]; exact hbk
      have Hcw := Lib.hid hcw
      clear hcw hbk
      go_wp2_with fail
      go_loopw [3, 5] (fun o i wr => ∃ (m l2 c2 : Nat) (A2 : Option Addr) (acc2 : List (List Int)), m ≤ n3 ∧ i = .int .i64 m ∧ o = .slice A2 l2 c2 ∧ Hid (SumQ (dAll (xss.take k) ++ dTo x m) acc2) ∧ Hid (StL w V wr wr.heap.size A2 l2 c2 acc2)) (fun _ i _ => n3 - (intOf i).toNat)
      case atStart => exact ⟨0, l', c', A', acc, Nat.zero_le _, rfl, rfl, Lib.hid (by simpa [dTo] using HA.out), HS⟩
      case round =>
        clear HS HA
        obtain ⟨m, l2, c2, A2, acc2, hm, rfl, rfl, HA2, HS⟩ := hrel
        have hc := (HS.out.bel.cell (p := ad.add k) hbx).trans Hcw.out
        by_cases hml : m < n3
        · obtain ⟨ad3, nk, rfl, hbk3, hxk, hck⟩ := (R3.out.below HS.out.bel).at_ hml
          obtain ⟨hnk, hnk2⟩ := at_nonN hxk.out Hok.out.1
          have Hgen := fun W : World => Lib.hid (generator_any nk W hnk hnk2)
          have Hgm := Lib.hid (fun l (hl : l ∈ oddL (genW nk)) => genW_mem (oddL_mem hl) hnk)
          have hgl := Nat.le_trans (oddL_len (genW nk)) (genTo_len nk (genM nk))
          have HSg : Hid (SameSum (oddL (genW nk)) (genW nk)) := Lib.hid (oddL_same _)
          obtain ⟨G, hG⟩ : ∃ G, G = oddL (genW nk) := ⟨_, rfl⟩
          rw [← hG] at Hgen Hgm hgl HSg
          clear hG
          obtain ⟨lg, hlg⟩ : ∃ l, l = G.length := ⟨_, rfl⟩
          have HLg := Lib.hid hlg
          rw [← hlg] at Hgen hgl
          have hlg5 : lg ≤ 5 := by unfold genM at hgl; omega
          clear hlg hgl
          have hm3 : (m : Int) < (n3 : Int) := by omega
          go_wp2_with fail
          refine ((Hgen _).out).mono ?_
          rintro e w1 ⟨A4, c4, rfl, ho4, hb4⟩
          have HG4 := Lib.hid ho4.rd
          have HS1 := Lib.hid (HS.out.call hb4).here
          have Wg := Lib.hid (Ext.refl w1)
          clear ho4 hb4 hc hck
          go_wp2_with fail
          go_loopw [3, 7] (fun o i wr => ∃ (p l5 c5 : Nat) (A5 : Option Addr) (acc5 : List (List Int)), p ≤ lg ∧ i = .int .i64 p ∧ o = .slice A5 l5 c5 ∧ Hid (SumQ (dAll (xss.take k) ++ dTo x m ++ putAt x m (G.take p)) acc5) ∧ Hid (StL w V wr wr.heap.size A5 l5 c5 acc5) ∧ Hid (Ext w1 wr)) (fun _ i _ => lg - (intOf i).toNat)
          case atStart => exact ⟨0, l2, c2, A2, acc2, Nat.zero_le _, rfl, rfl, Lib.hid (by simpa [putAt] using HA2.out), HS1, Wg⟩
          case round =>
            clear HS1 HA2 Wg HS
            obtain ⟨p, l5, c5, A5, acc5, hp, rfl, rfl, HA5, HS, HX⟩ := hrel
            by_cases hpl : p < lg
            · obtain ⟨adr, Ay, ny, cy, y, rfl, hbr, hy, hcy, hry⟩ := (HG4.out.below HX.out).at_ hpl
              obtain ⟨y1, y2, y3⟩ := Hgm.out y (List.mem_of_getElem? hy.out)
              have hny : ny = 2 := by rw [← hry.len]; exact y1
              subst hny
              obtain ⟨wz, hwz⟩ : ∃ W : World, W = wr := ⟨_, rfl⟩
              subst hwz
              have hzy : (adr.add p).block < wz.heap.size := by rw [block_of_add]; exact Nat.lt_of_lt_of_le hbr HX.out.size
              have hcx := (HS.out.bel.cell (p := ad.add k) hbx).trans Hcw.out
              have hzx : (ad.add k).block < wz.heap.size := Nat.lt_of_lt_of_le hbx HS.out.size
              have HRy := Lib.hid (hry.mono HX.out.size)
              have HRw := Lib.hid ((R3.out.below HS.out.bel).mono HS.out.size)
              have Ed := Lib.hid (Ext.drew (Ext.refl wz))
              have Hokz := Lib.hid (put_okW hxk.out Hok.out.1 Hok.out.2 y1 y2 y3)
              have Hsuc := Lib.hid (putAt_succ (x := x) (k := m) hy.out)
              obtain ⟨m1, hm1⟩ : ∃ i, i = m + 1 := ⟨_, rfl⟩
              rw [← hm1] at Hokz Hsuc
              have hm1n : m1 ≤ n3 := by omega
              have hsl1 := fun W => run_pre (some ad3) n3 c3 m (by have := HRw.out.cap; omega) W
              have hsl2 := fun W => run_suf1 (some ad3) n3 c3 m m1 hm1 hm1n W
              have HM1 := Lib.hid hm1
              have hm0 : (0 : Int) ≤ (m : Int) := by omega
              have hp0 : (0 : Int) ≤ (p : Int) := by omega
              clear hbr hry hm1 y1 y2 y3
              go_wp2_with fail
              go_region_held3 (fun w' => w'.cell? (ad.add k) = some (.slice (some ad3) n3 c3) ∧ w'.cell? (adr.add p) = some (.slice Ay 2 cy)) (first | exact ⟨hcx, hcy⟩ | exact ⟨kx1, kcy1⟩ | exact ⟨kx2, kcy2⟩)
                (first
                  | (go_at_call 62
                     refine (own_st (some ad3) m c3 _ (x.take m) _ ((HRw.out.below Ed.out).pre (Nat.le_of_lt hml)) (Nat.le_refl _) (by omega)).mono ?_
                     rintro e u1 ⟨A6, c6, rfl, ho6, hb6⟩
                     have kx1 := bcellA hb6 (show (ad.add k).block < wz.drew.heap.size from hzx) hcx
                     have kcy1 := bcellA hb6 (show (adr.add p).block < wz.drew.heap.size from hzy) hcy
                     have HS6 := Lib.hid (show StS wz wz.heap.size u1 A6 m c6 (x.take m) from ⟨ho6, Ext.trans Ed.out hb6, hb6.size⟩)
                     have HRy1 := Lib.hid (HRy.out.below (Ext.trans Ed.out hb6))
                     clear ho6 hb6)
                  | ((refine step_joinI (by rfl) (.tmp 45) (.tmp 49) (by rfl) (by rfl) (by rfl) HS6.out HRy1.out (by omega) ?_
                      intro A7 c7 w7 hs7 hg7
                      have kx2 : w7.cell? (ad.add k) = some (.slice (some ad3) n3 c3) := (hs7.bel.cell (p := ad.add k) hzx).trans hcx
                      have kcy2 : w7.cell? (adr.add p) = some (.slice Ay 2 cy) := (hs7.bel.cell (p := adr.add p) hzy).trans hcy
                      have HS7 := Lib.hid hs7
                      clear hs7 hg7)))
              have HRs := Lib.hid ((HRw.out.below HS7.out.bel).suf hm1n)
              clear hcx hcy kx1 kcy1 kcy2 HS6 HRy1
              go_wp2_with (at_builtin; refine wpList_joinI rfl (.tmp 52) (.tmp 59) rfl rfl rfl HS7.out HRs.out (by omega) ?_)
              intro A8 c8 w8 hs8 _
              obtain ⟨z, hz⟩ : ∃ z, z = x.take m ++ y ++ x.drop m1 := ⟨_, rfl⟩
              rw [← List.append_assoc, ← hz] at hs8
              rw [← hz] at Hokz Hsuc
              have HS8 := Lib.hid hs8
              have hzl : z.length ≤ 7 := Hokz.out.1
              have hl5 := HA5.out.len
              rw [HS.out.own.len] at hl5
              have HA6 := Lib.hid (HA5.out.step Hokz.out)
              rw [List.append_assoc, ← Hsuc.out] at HA6
              have Htot := Lib.hid HA5.out.tot
              have hl3 := HA6.out.len
              have Hsum := Lib.hid (l01Sum_any A5 _ l5 c5 1 1 acc5 [z] _ (((HS.out.rd.below HS8.out.bel).mono HS8.out.bel.size).alloc _) (rdL_one HS8.out.own.rd (Nat.le_refl _)) (by omega) (by omega) (by have := Htot.out; omega) (by simp [totalL]; omega) HA5.out.asc (by simp [Asc]))
              have HXa := Lib.hid (Ext.alloc HS8.out.bel (.cells #[.slice A8 (m + 2 + (n3 - m1)) c8] 35))
              obtain ⟨M2, hM2⟩ : ∃ M2, M2 = oddL (acc5 ++ [z]) := ⟨_, rfl⟩
              rw [← hM2] at HA6 Hsum hl3
              obtain ⟨l3, hl3e⟩ : ∃ l, l = M2.length := ⟨_, rfl⟩
              rw [← hl3e] at Hsum hl3
              clear hs8 hz hM2 hl3e
              go_wp2_with fail
              refine Hsum.out.mono ?_
              rintro e w9 ⟨A9, c9, rfl, ho9, hb9⟩
              have HX9 := Lib.hid (Ext.trans HXa.out hb9)
              have HO9 := Lib.hid (ho9.mono (B' := V) (Nat.le_trans HS.out.size HXa.out.size) (Nat.le_refl _))
              have HS9 := Lib.hid (show StL w V w9 w9.heap.size A9 l3 c9 M2 from ⟨HO9.out, HS.out.bel.trans (HX9.out.mono HS.out.size), Nat.le_trans HS.out.size HX9.out.size, Nat.le_refl _⟩)
              have HXX := Lib.hid (Ext.trans HX.out HX9.out)
              clear ho9 hb9
              go_wp2_with fail
              go_roundw
              case rel => exact ⟨p + 1, l3, c9, A9, M2, by omega, by go_num, rfl, HA6, HS9, HXX⟩
              case measure => simp [intOf]; omega
            · obtain rfl : p = lg := by omega
              have HA6 : Hid (SumQ (dAll (xss.take k) ++ dTo x (m + 1)) acc5) := Lib.hid (by
                have := HA5.out
                rw [List.take_of_length_le (l := G) (by rw [HLg.out]; exact Nat.le_refl _)] at this
                rw [dTo_succ hxk.out, ← List.append_assoc]
                exact this.congr ((SameSum.refl _).append (putAt_same HSg.out)))
              go_wp2_with fail
              go_roundw
              case rel => exact ⟨m + 1, l5, c5, A5, acc5, by omega, by go_num, rfl, HA6, HS⟩
              case measure => simp [intOf]; omega
        · obtain rfl : m = n3 := by omega
          have HA6 : Hid (SumQ (dAll (xss.take (k + 1))) acc2) := Lib.hid (by rw [dAll_succ hx.out, HL3.out]; exact HA2.out)
          go_wp2_with fail
          go_roundw
          case rel => exact ⟨k + 1, l2, c2, A2, acc2, by omega, by go_num, rfl, HA6, HS⟩
          case measure => simp [intOf]; omega
    · obtain rfl : k = n := by omega
      have HF : Hid (formL acc = formL (dAll xss)) := Lib.hid (by
        have := HA.out.form
        rw [List.take_of_length_le (by rw [L1.out]; exact Nat.le_refl _)] at this
        exact this)
      have Hrd := Lib.hid (reduce_any A' l' c' _ acc _ HS.out.rd (Nat.le_refl _) HA.out.asc HA.out.ok)
      go_wp2_with fail
      refine Hrd.out.mono ?_
      rintro e w5 ⟨A6, c6, rfl, hr6, ho6, hb6⟩
      have h9 : Hid (StL w V w5 w5.heap.size A6 (formL acc).length c6 (formL acc)) := Lib.hid (by
        rcases ho6 with ho6 | ⟨rfl, e2, rfl, e4⟩
        · exact ⟨ho6.mono HS.out.size (Nat.le_refl _), HS.out.bel.trans (hb6.mono HS.out.size), Nat.le_trans HS.out.size hb6.size, Nat.le_refl _⟩
        · rw [e2, e4]
          exact (HS.out.call hb6).here)
      clear ho6 hb6 hr6
      go_wp2_with fail
      go_ret
      have h8 := h9.out
      rw [HVe.out] at h8
      exact RetL.mk (by rw [HF.out]) HF.out h8
end Go.Proofs.YtgmbbpaokcjnhaaGreatDoor
