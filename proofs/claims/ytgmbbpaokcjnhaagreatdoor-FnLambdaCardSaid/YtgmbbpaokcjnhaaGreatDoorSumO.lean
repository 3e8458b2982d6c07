/- oddOnes, sumOf. -/
import Derived.Test.YtgmbbpaokcjnhaaGreatDoorSumL
import Derived.Test.YtgmbbpaokcjnhaaGreatDoorSort
namespace Go.Proofs.YtgmbbpaokcjnhaaGreatDoor
open Go.RowKit
set_option linter.unusedVariables false

theorem oddOnes_any (A : Option Addr) (n c : Nat) (xss : List (List Int)) (w : World) (h : RdL w w.heap.size A n c xss) (hn : n ≤ 1000000000000) (ht : totalL xss ≤ 1000000000000) :
    Calls Tryz.prog 56 #[.slice A n c] w (RetL (oddL xss).length (oddL xss) w) := by
  have Hc := Lib.hid (copyL_any A n c xss w h hn)
  have HX := Lib.hid (fun (x : List Int) (hx : x ∈ xss) => Nat.le_trans (len_le_tot hx) ht)
  have HT := Lib.hid ht; clear ht h
  obtain ⟨V, hV⟩ : ∃ V, V = w.heap.size := ⟨_, rfl⟩
  have HVe := Lib.hid hV; clear hV
  go_enter Tryz.func56, Tryz.ntmps56
  go_wp2_with fail
  refine Hc.out.mono ?_
  rintro e w1 ⟨A1, c1, rfl, ho1, hb1⟩
  have O1 := Lib.hid ho1; clear ho1
  have B1 := Lib.hid hb1; clear hb1
  go_wp2_with fail
  refine (sortL_any A1 n c1 w.heap.size w.heap.size xss w1 O1.out (Nat.le_refl _) hn HX.out).mono ?_
  rintro e w2 ⟨ss, rfl, hp, hs, ho2, hg2⟩
  have B2 := Lib.hid (B1.out.grown hg2 B1.out.size (by
    obtain ⟨vs, h1, _⟩ := O1.out.rows
    exact h1.row)); clear hg2
  have R2 := Lib.hid (ho2.rd B2.out.size)
  have Hl := Lib.hid ho2.len; clear ho2
  have HP := Lib.hid hp; clear hp
  have HSo := Lib.hid (show SortedL ss from hs); clear hs
  have HTs := Lib.hid (show totalL ss ≤ 1000000000000 by rw [perm_total HP.out]; exact HT.out)
  have hst := StL.start (Below.refl w2.heap.size w2) (Nat.le_refl _)
  obtain ⟨B, hB⟩ : ∃ B, B = w2.heap.size := ⟨_, rfl⟩
  have HBe := Lib.hid hB
  rw [← hB] at hst R2
  clear hB
  have HS := Lib.hid hst.here; clear hst
  go_wp2_with fail
  rw [← HBe.out]
  go_loopw [4, 5] (fun o i wr => ∃ (k l' c' : Nat) (A' : Option Addr) (out : List (List Int)), k ≤ n ∧ i = .int .i64 k ∧ o = .slice A' l' c' ∧ l' ≤ k ∧ Hid (out.length = l') ∧ Hid (OddInv ss k out) ∧ ∃ K, Hid (StL w2 B wr K A' l' c' out)) (fun _ i _ => n - (intOf i).toNat)
  case atStart => exact ⟨0, 0, 0, _, [], Nat.zero_le _, rfl, rfl, Nat.le_refl _, Lib.hid rfl, Lib.hid (OddInv.start ss), _, by rw [HBe.out]; rw [HBe.out] at HS; exact HS⟩
  case round =>
    obtain ⟨k, l', c', A', out, hk, rfl, rfl, hlk, HL', HI, K, HS⟩ := hrel
    by_cases hlt : k < n
    · go_wp2_with fail
      obtain ⟨wo, hwo⟩ : ∃ wo : World, wo = wr := ⟨_, rfl⟩
      obtain ⟨ad, A3, n3, c3, x, rfl, _, hx, hc3, hr3⟩ := (R2.out.below HS.out.bel).at_ hlt
      have hn3 : n3 ≤ 1000000000000 := by rw [← hr3.len]; exact Nat.le_trans (len_le_total hx) HTs.out
      have R3 := Lib.hid hr3; clear hr3
      have Hc3 := Lib.hid hc3; clear hc3
      subst hwo
      go_loopw [6] (fun u wr => ∃ m : Nat, k ≤ m ∧ m ≤ n ∧ u = .int .i64 (m : Int) ∧ Hid (∀ j, k ≤ j → j < m → ss[j]? = some x) ∧ ∃ q, wr = wo.drewN q) (fun u _ => n - (intOf u).toNat)
      case atStart => exact ⟨k, Nat.le_refl _, by omega, rfl, Lib.hid (fun j h1 h2 => absurd h1 (by omega)), 0, rfl⟩
      case round =>
        obtain ⟨m, hkm, hmn, rfl, HD, q, rfl⟩ := hrel
        by_cases hlm : m < n
        · obtain ⟨ad', A4, n4, c4, y, had, _, hy, hc4, hr4⟩ := (R2.out.below HS.out.bel).at_ hlm
          obtain rfl : ad = ad' := by simpa using had
          have hn4 : n4 ≤ 1000000000000 := by rw [← hr4.len]; exact Nat.le_trans (len_le_total hy) HTs.out
          have Heq := fun W : Nat => Lib.hid (equal_any A4 A3 c4 c3 n4 n3 _ _ y x (wo.drewN W) (hr4.drewN W) (R3.out.drewN W) hn4 hn3)
          have hc30 := Hc3.out
          clear had hr4
          by_cases hyx : y = x
          · have hd : decide (y = x) = true := decide_eq_true hyx
            rw [hd] at Heq
            have HD2 : Hid (∀ j, k ≤ j → j < m + 1 → ss[j]? = some x) := Lib.hid (eq_at HD (by rw [hy.out, hyx]))
            clear hd hyx
            go_wp2_with fail
            go_quiet ((go_at_call 80; first | exact Calls.quiet_of ((Heq _).out) | exact quiet_add ((Heq _).out)))
            go_wp2_with fail
            go_roundw
            case rel => exact ⟨m + 1, by omega, by omega, by go_num, HD2, (by first | exact ⟨_, rfl⟩ | exact ⟨_, World.drewN_drewN _ _ _⟩ | (simp only [World.drewN_drewN]; exact ⟨_, rfl⟩))⟩
            case measure => simp [intOf]; omega
          · have hd : decide (y = x) = false := decide_eq_false hyx
            rw [hd] at Heq
            have hkm2 : k < m := by
              rcases Nat.lt_or_eq_of_le hkm with h | rfl
              · exact h
              · exact absurd (by have := hy.out; rw [hx.out] at this; simpa using this.symm) hyx
            have HE : Hid (m = ss.length ∨ ∃ y, ss[m]? = some y ∧ x ≠ y) := Lib.hid (.inr ⟨y, hy.out, fun e => hyx e.symm⟩)
            clear hd hyx
            by_cases hp : (m - k) % 2 = 1
            · have HI2 := Lib.hid (HI.out.step2 HSo.out hkm2 (by rw [Hl.out]; exact hmn) HD.out HE.out)
              rw [if_pos hp] at HI2
              have hp1 : (((m : Int) - (k : Int)) % 2 == 1) = true := by have h : ((m : Int) - k) % 2 = 1 := by omega
                                                                         simp [h]
              have hc30 := Hc3.out
              clear hp
              go_wp2_with fail
              go_quiet ((go_at_call 80; first | exact Calls.quiet_of ((Heq _).out) | exact quiet_add ((Heq _).out)))
              go_wp2_with fail
              refine (copyI_st A3 n3 c3 B x _ (R3.out.drewN _) HS.out.size hn3).mono ?_
              rintro e w5 ⟨A5, c5, rfl, ho5, hb5⟩
              have N5 := Lib.hid (ho5.mono (B' := wo.heap.size) (Nat.le_refl _))
              have HS5 := Lib.hid ((HS.out.here.drewN _).call hb5); clear ho5 hb5
              go_wp2_with (at_builtin; refine wpList_pushL rfl (.tmp 39) (.tmp 45) rfl rfl rfl HS5.out N5.out (by omega) ?_)
              intro A6 c6 w6 hs6 _ _
              have HS6 := Lib.hid hs6; clear hs6
              have HL6 : Hid ((out ++ [x]).length = l' + 1) := Lib.hid (by rw [List.length_append, HL'.out]; rfl)
              go_wp2_with fail
              go_roundw
              case rel => exact ⟨m, l' + 1, c6, A6, _, hmn, by go_num, rfl, by omega, HL6, HI2, _, HS6⟩
              case measure => simp [intOf]; omega
            · have HI2 := Lib.hid (HI.out.step2 HSo.out hkm2 (by rw [Hl.out]; exact hmn) HD.out HE.out)
              rw [if_neg hp] at HI2
              have hp1 : (((m : Int) - (k : Int)) % 2 == 1) = false := by have h : ((m : Int) - k) % 2 = 0 := by omega
                                                                          simp [h]
              clear hp
              go_wp2_with fail
              go_quiet ((go_at_call 80; first | exact Calls.quiet_of ((Heq _).out) | exact quiet_add ((Heq _).out)))
              go_wp2_with fail
              go_roundw
              case rel => exact ⟨m, l', c', A', _, hmn, by go_num, rfl, by omega, HL', HI2, K, Lib.hid (HS.out.drewN _)⟩
              case measure => simp [intOf]; omega
        · obtain rfl : m = n := by omega
          have HE : Hid (m = ss.length ∨ ∃ y, ss[m]? = some y ∧ x ≠ y) := Lib.hid (.inl Hl.out.symm)
          have hkm2 : k < m := hlt
          by_cases hp : (m - k) % 2 = 1
          · have HI2 := Lib.hid (HI.out.step2 HSo.out hkm2 (by rw [Hl.out]; exact hmn) HD.out HE.out)
            rw [if_pos hp] at HI2
            have hp1 : (((m : Int) - (k : Int)) % 2 == 1) = true := by have h : ((m : Int) - k) % 2 = 1 := by omega
                                                                       simp [h]
            have hc30 := Hc3.out
            clear hp
            go_wp2_with fail
            go_quiet (fail)
            go_wp2_with fail
            refine (copyI_st A3 n3 c3 B x _ (R3.out.drewN _) HS.out.size hn3).mono ?_
            rintro e w5 ⟨A5, c5, rfl, ho5, hb5⟩
            have N5 := Lib.hid (ho5.mono (B' := wo.heap.size) (Nat.le_refl _))
            have HS5 := Lib.hid ((HS.out.here.drewN _).call hb5); clear ho5 hb5
            go_wp2_with (at_builtin; refine wpList_pushL rfl (.tmp 39) (.tmp 45) rfl rfl rfl HS5.out N5.out (by omega) ?_)
            intro A6 c6 w6 hs6 _ _
            have HS6 := Lib.hid hs6; clear hs6
            have HL6 : Hid ((out ++ [x]).length = l' + 1) := Lib.hid (by rw [List.length_append, HL'.out]; rfl)
            go_wp2_with fail
            go_roundw
            case rel => exact ⟨m, l' + 1, c6, A6, _, hmn, by go_num, rfl, by omega, HL6, HI2, _, HS6⟩
            case measure => simp [intOf]; omega
          · have HI2 := Lib.hid (HI.out.step2 HSo.out hkm2 (by rw [Hl.out]; exact hmn) HD.out HE.out)
            rw [if_neg hp] at HI2
            have hp1 : (((m : Int) - (k : Int)) % 2 == 1) = false := by have h : ((m : Int) - k) % 2 = 0 := by omega
                                                                        simp [h]
            clear hp
            go_wp2_with fail
            go_quiet (fail)
            go_wp2_with fail
            go_roundw
            case rel => exact ⟨m, l', c', A', _, hmn, by go_num, rfl, by omega, HL', HI2, K, Lib.hid (HS.out.drewN _)⟩
            case measure => simp [intOf]; omega
    · obtain rfl : k = n := by omega
      go_wp2_with fail
      go_ret
      have HI2 := HI.out
      rw [← Hl.out] at HI2
      have ho := HI2.end_
      have h5 := HS.out
      have hov : oddL ss = oddL xss := oddL_congr (SameSum.of_perm HP.out)
      rw [ho, hov] at h5
      have hlen : l' = (oddL xss).length := by rw [← HL'.out, ho, hov]
      rw [HBe.out] at h5
      exact RetL.mk hlen rfl ⟨h5.own.mono B2.out.size (Nat.le_refl _), B2.out.trans (h5.bel.mono B2.out.size), Nat.le_trans B2.out.size h5.lo, h5.hi⟩

theorem sumOf_any (A1 A2 : Option Addr) (n1 c1 n2 c2 : Nat) (xss yss : List (List Int)) (w : World) (h1 : RdL w w.heap.size A1 n1 c1 xss) (h2 : RdL w w.heap.size A2 n2 c2 yss) (hn1 : n1 ≤ 100000000000) (hn2 : n2 ≤ 100000000000)
    (ht1 : totalL xss ≤ 100000000000) (ht2 : totalL yss ≤ 100000000000) :
    Calls Tryz.prog 44 #[.slice A1 n1 c1, .slice A2 n2 c2] w (RetL (oddL (xss ++ yss)).length (oddL (xss ++ yss)) w) := by
  have Hj := Lib.hid (joinedL_any A1 A2 n1 c1 n2 c2 xss yss w h1 h2 (by omega) (by omega)); clear h1 h2
  have HT : Hid (totalL (xss ++ yss) ≤ 1000000000000) := Lib.hid (by
    have : totalL (xss ++ yss) = totalL xss + totalL yss := by unfold totalL; rw [List.map_append, List.sum_append]
    omega)
  clear ht1 ht2
  go_enter Tryz.func44, Tryz.ntmps44
  go_wp2_with fail
  refine Hj.out.mono ?_
  rintro e w1 ⟨A, c, rfl, ho, hb⟩
  have R1 := Lib.hid (ho.rd hb.size); clear ho
  have B1 := Lib.hid hb; clear hb
  go_wp2_with fail
  refine (oddOnes_any A (n1 + n2) c _ _ R1.out (by omega) HT.out).mono ?_
  rintro e w2 ⟨A2, c2, rfl, ho2, hb2⟩
  have O2 := Lib.hid (ho2.mono B1.out.size (Nat.le_refl _)); clear ho2
  have B2 := Lib.hid (B1.out.trans (hb2.mono B1.out.size)); clear hb2
  go_wp2_with fail
  go_ret
  exact ⟨A2, c2, rfl, O2.out, B2.out⟩

end Go.Proofs.YtgmbbpaokcjnhaaGreatDoor
