/- l01Sum. -/
import Derived.Test.YtoodhbafleemjaaGreatOdd
namespace Go.Proofs.YtoodhbafleemjaaGreat
open Go.RowKit
set_option linter.unusedVariables false

theorem perm_total {xs ys : List (List Int)} (h : xs.Perm ys) : totalL xs = totalL ys := by
  induction h with
  | nil => rfl
  | cons x _ ih => simp only [totalL, List.map_cons, List.sum_cons] at ih ⊢; omega
  | swap x y l => simp only [totalL, List.map_cons, List.sum_cons]; omega
  | trans _ _ h1 h2 => exact h1.trans h2
theorem len_le_tot {xss : List (List Int)} {x : List Int} (h : x ∈ xss) : x.length ≤ totalL xss := by
  obtain ⟨k, hk, rfl⟩ := List.getElem_of_mem h
  exact len_le_total (Lib.hid (List.getElem?_eq_getElem hk))
theorem eq_at {ss : List (List Int)} {i m : Nat} {x : List Int} (h : Hid (∀ j, i ≤ j → j < m → ss[j]? = some x)) (hn : ss[m]? = some x) : ∀ j, i ≤ j → j < m + 1 → ss[j]? = some x := fun j h1 h2 => by
  by_cases hj : j = m
  · subst hj; exact hn
  · exact h.out j h1 (by omega)
theorem OddInv.step2 {ss : List (List Int)} {k m : Nat} {out : List (List Int)} {x : List Int} (hs : SortedL ss) (h : OddInv ss k out) (hkm : k < m) (hm : m ≤ ss.length)
    (heq : ∀ j, k ≤ j → j < m → ss[j]? = some x) (hend : m = ss.length ∨ ∃ y, ss[m]? = some y ∧ x ≠ y) : OddInv ss m (if (m - k) % 2 = 1 then out ++ [x] else out) := by
  obtain ⟨d, rfl⟩ : ∃ d, m = k + d := ⟨m - k, by omega⟩
  rw [show k + d - k = d from by omega]
  exact h.step hs (by omega) hm heq hend

theorem l01Sum_any (A1 A2 : Option Addr) (n1 c1 n2 c2 : Nat) (xss yss : List (List Int)) (w : World) (h1 : RdL w w.heap.size A1 n1 c1 xss) (h2 : RdL w w.heap.size A2 n2 c2 yss) (hn1 : n1 ≤ 100000000000) (hn2 : n2 ≤ 100000000000)
    (ht1 : totalL xss ≤ 100000000000) (ht2 : totalL yss ≤ 100000000000) (ha1 : Asc xss) (ha2 : Asc yss) :
    Calls Tryz.prog 115 #[.slice A1 n1 c1, .slice A2 n2 c2] w (RetL (oddL (xss ++ yss)).length (oddL (xss ++ yss)) w) := by
  have HT1 := Lib.hid (show totalL xss ≤ 1000000000000 by omega)
  have HT2 := Lib.hid (show totalL yss ≤ 1000000000000 by omega)
  have Hl1 := Lib.hid h1.len
  have Hl2 := Lib.hid h2.len
  have Ha1 := Lib.hid ha1
  have Ha2 := Lib.hid ha2
  clear ht1 ht2 ha1 ha2
  obtain ⟨B, hB⟩ : ∃ B, B = w.heap.size := ⟨_, rfl⟩
  have hst := StL.start (Below.refl w.heap.size w) (Nat.le_refl _)
  rw [← hB] at h1 h2 hst
  have HBe := Lib.hid hB; clear hB
  have HS := Lib.hid hst.here; clear hst
  have H1 := Lib.hid h1; clear h1
  have H2 := Lib.hid h2; clear h2
  go_enter Tryz.func115, Tryz.ntmps115
  go_wp2_with fail
  rw [← HBe.out]
  go_loopw [5, 6, 7] (fun o i k wr => ∃ (i' k' l' c' : Nat) (A' : Option Addr) (out : List (List Int)), i' ≤ n1 ∧ k' ≤ n2 ∧ i = .int .i64 i' ∧ k = .int .i64 k' ∧ o = .slice A' l' c' ∧ l' ≤ i' + k' ∧ Hid (out.length = l') ∧ Hid (MergeInv xss yss i' k' out) ∧ ∃ K, Hid (StL w B wr K A' l' c' out)) (fun _ i k _ => (n1 - (intOf i).toNat) + (n2 - (intOf k).toNat))
  case atStart => exact ⟨0, 0, 0, 0, _, [], Nat.zero_le _, Nat.zero_le _, rfl, rfl, rfl, Nat.zero_le _, Lib.hid rfl, Lib.hid (MergeInv.start _ _), _, by rw [HBe.out]; rw [HBe.out] at HS; exact HS⟩
  case round =>
    obtain ⟨i, k, l', c', A', out, hin, hkn, rfl, rfl, rfl, hlk, HL', HI, K, HS⟩ := hrel
    by_cases hi : i < n1
    · by_cases hk2 : k < n2
      · obtain ⟨ad3, A3, n3, c3, x, rfl, _, hx, hc3, hr3⟩ := (H1.out.below HS.out.bel).at_ hi
        have hn3 : n3 ≤ 1000000000000 := by rw [← hr3.len]; exact Nat.le_trans (len_le_total hx) HT1.out
        have R3 := Lib.hid hr3; clear hr3
        obtain ⟨ad4, A4, n4, c4, y, rfl, _, hy, hc4, hr4⟩ := (H2.out.below HS.out.bel).at_ hk2
        have hn4 : n4 ≤ 1000000000000 := by rw [← hr4.len]; exact Nat.le_trans (len_le_total hy) HT2.out
        have R4 := Lib.hid hr4; clear hr4
        have HL1 := fun W : Nat => Lib.hid (less_any A3 A4 c3 c4 n3 n4 _ _ x y (wr.drewN W) (R3.out.drewN W) (R4.out.drewN W) hn3 hn4)
        have HL2 := fun W : Nat => Lib.hid (less_any A4 A3 c4 c3 n4 n3 _ _ y x (wr.drewN W) (R4.out.drewN W) (R3.out.drewN W) hn4 hn3)
        have hk3 : ((k : Int) == (n2 : Int)) = false := by simp; omega
        have hi3 : ((i : Int) == (n1 : Int)) = false := by simp; omega
        cases hlt : ltL x y
        · cases hgt : ltL y x
          · have hxy : x = y := by
              rcases ltL_tri x y with h | h | h
              · rw [h] at hlt; cases hlt
              · exact h
              · rw [h] at hgt; cases hgt
            rw [hlt] at HL1; rw [hgt] at HL2
            have HI2 := Lib.hid (HI.out.both hx.out (by rw [hxy]; exact hy.out))
            clear hlt hgt hxy
            go_wp2_with fail
            go_quiet ((go_at_call 123; first | exact Calls.quiet_of ((HL1 _).out) | exact quiet_add ((HL1 _).out)))
            go_wp2_with fail
            go_quiet ((go_at_call 123; first | exact Calls.quiet_of ((HL2 _).out) | exact quiet_add ((HL2 _).out)))
            go_wp2_with fail
            go_roundw
            case rel => exact ⟨i + 1, k + 1, l', c', A', out, by omega, by omega, by go_num, by go_num, rfl, by omega, HL', HI2, K, Lib.hid (HS.out.drewN _)⟩
            case measure => simp [intOf]; omega
          · rw [hlt] at HL1; rw [hgt] at HL2
            have Hgt := Lib.hid hgt
            clear hlt hgt
            go_wp2_with fail
            go_quiet ((go_at_call 123; first | exact Calls.quiet_of ((HL1 _).out) | exact quiet_add ((HL1 _).out)))
            go_wp2_with fail
            go_quiet ((go_at_call 123; first | exact Calls.quiet_of ((HL2 _).out) | exact quiet_add ((HL2 _).out)))
            go_wp2_with fail
            refine (own_st A4 n4 c4 B y _ (R4.out.drewN _) HS.out.size hn4).mono ?_
            rintro e w5 ⟨A5, c5, rfl, ho5, hb5⟩
            have N5 := Lib.hid (ho5.mono (B' := wr.heap.size) (Nat.le_refl _))
            have HS5 := Lib.hid ((HS.out.here.drewN _).call hb5); clear ho5 hb5
            go_wp2_with (at_builtin; refine wpList_pushL rfl (.tmp 71) (.tmp 77) rfl rfl rfl HS5.out N5.out (by omega) ?_)
            intro A6 c6 w6 hs6 _ _
            have HS6 := Lib.hid hs6; clear hs6
            have HL6 : Hid ((out ++ [y]).length = l' + 1) := Lib.hid (by rw [List.length_append, HL'.out]; rfl)
            have HI2 := Lib.hid (HI.out.right Ha1.out Ha2.out hy.out (.inr ⟨x, hx.out, Hgt.out⟩))
            go_wp2_with fail
            go_roundw
            case rel => exact ⟨i, k + 1, l' + 1, c6, A6, _, by omega, by omega, by go_num, by go_num, rfl, by omega, HL6, HI2, _, HS6⟩
            case measure => simp [intOf]; omega
        · rw [hlt] at HL1
          have Hlt := Lib.hid hlt
          clear hlt HL2
          go_wp2_with fail
          go_quiet ((go_at_call 123; first | exact Calls.quiet_of ((HL1 _).out) | exact quiet_add ((HL1 _).out)))
          go_wp2_with fail
          refine (own_st A3 n3 c3 B x _ (R3.out.drewN _) HS.out.size hn3).mono ?_
          rintro e w5 ⟨A5, c5, rfl, ho5, hb5⟩
          have N5 := Lib.hid (ho5.mono (B' := wr.heap.size) (Nat.le_refl _))
          have HS5 := Lib.hid ((HS.out.here.drewN _).call hb5); clear ho5 hb5
          go_wp2_with (at_builtin; refine wpList_pushL rfl (.tmp 45) (.tmp 51) rfl rfl rfl HS5.out N5.out (by omega) ?_)
          intro A6 c6 w6 hs6 _ _
          have HS6 := Lib.hid hs6; clear hs6
          have HL6 : Hid ((out ++ [x]).length = l' + 1) := Lib.hid (by rw [List.length_append, HL'.out]; rfl)
          have HI2 := Lib.hid (HI.out.left Ha1.out Ha2.out hx.out (.inr ⟨y, hy.out, Hlt.out⟩))
          go_wp2_with fail
          go_roundw
          case rel => exact ⟨i + 1, k, l' + 1, c6, A6, _, by omega, by omega, by go_num, by go_num, rfl, by omega, HL6, HI2, _, HS6⟩
          case measure => simp [intOf]; omega
      · obtain rfl : k = n2 := by omega
        obtain ⟨ad3, A3, n3, c3, x, rfl, _, hx, hc3, hr3⟩ := (H1.out.below HS.out.bel).at_ hi
        have hn3 : n3 ≤ 1000000000000 := by rw [← hr3.len]; exact Nat.le_trans (len_le_total hx) HT1.out
        have R3 := Lib.hid hr3; clear hr3
        have hk3 : ((k : Int) == (k : Int)) = true := by simp
        go_wp2_with fail
        go_quiet (fail)
        go_wp2_with fail
        refine (own_st A3 n3 c3 B x _ (R3.out.drewN _) HS.out.size hn3).mono ?_
        rintro e w5 ⟨A5, c5, rfl, ho5, hb5⟩
        have N5 := Lib.hid (ho5.mono (B' := wr.heap.size) (Nat.le_refl _))
        have HS5 := Lib.hid ((HS.out.here.drewN _).call hb5); clear ho5 hb5
        go_wp2_with (at_builtin; refine wpList_pushL rfl (.tmp 45) (.tmp 51) rfl rfl rfl HS5.out N5.out (by omega) ?_)
        intro A6 c6 w6 hs6 _ _
        have HS6 := Lib.hid hs6; clear hs6
        have HL6 : Hid ((out ++ [x]).length = l' + 1) := Lib.hid (by rw [List.length_append, HL'.out]; rfl)
        have HI2 := Lib.hid (HI.out.left Ha1.out Ha2.out hx.out (.inl (Nat.le_of_eq Hl2.out)))
        go_wp2_with fail
        go_roundw
        case rel => exact ⟨i + 1, k, l' + 1, c6, A6, _, by omega, by omega, by go_num, by go_num, rfl, by omega, HL6, HI2, _, HS6⟩
        case measure => simp [intOf]; omega
    · obtain rfl : i = n1 := by omega
      by_cases hk2 : k < n2
      · obtain ⟨ad4, A4, n4, c4, y, rfl, _, hy, hc4, hr4⟩ := (H2.out.below HS.out.bel).at_ hk2
        have hn4 : n4 ≤ 1000000000000 := by rw [← hr4.len]; exact Nat.le_trans (len_le_total hy) HT2.out
        have R4 := Lib.hid hr4; clear hr4
        have hk3 : ((k : Int) == (n2 : Int)) = false := by simp; omega
        have hi3 : ((i : Int) == (i : Int)) = true := by simp
        go_wp2_with fail
        go_quiet (fail)
        go_wp2_with fail
        go_quiet (fail)
        go_wp2_with fail
        refine (own_st A4 n4 c4 B y _ (R4.out.drewN _) HS.out.size hn4).mono ?_
        rintro e w5 ⟨A5, c5, rfl, ho5, hb5⟩
        have N5 := Lib.hid (ho5.mono (B' := wr.heap.size) (Nat.le_refl _))
        have HS5 := Lib.hid ((HS.out.here.drewN _).call hb5); clear ho5 hb5
        go_wp2_with (at_builtin; refine wpList_pushL rfl (.tmp 71) (.tmp 77) rfl rfl rfl HS5.out N5.out (by omega) ?_)
        intro A6 c6 w6 hs6 _ _
        have HS6 := Lib.hid hs6; clear hs6
        have HL6 : Hid ((out ++ [y]).length = l' + 1) := Lib.hid (by rw [List.length_append, HL'.out]; rfl)
        have HI2 := Lib.hid (HI.out.right Ha1.out Ha2.out hy.out (.inl (Nat.le_of_eq Hl1.out)))
        go_wp2_with fail
        go_roundw
        case rel => exact ⟨i, k + 1, l' + 1, c6, A6, _, by omega, by omega, by go_num, by go_num, rfl, by omega, HL6, HI2, _, HS6⟩
        case measure => simp [intOf]; omega
      · obtain rfl : k = n2 := by omega
        go_wp2_with fail
        go_ret
        have he := HI.out.end_ (Nat.le_of_eq Hl1.out) (Nat.le_of_eq Hl2.out)
        have h5 := HS.out
        rw [he, HBe.out] at h5
        exact RetL.mk (by rw [← HL'.out, he]) rfl h5

theorem oddL_total (s : List (List Int)) : totalL (oddL s) ≤ totalL s := by
  have h : ∀ (x : List Int) (t : List (List Int)), totalL (insX x t) ≤ totalL t + x.length := by
    intro x t
    induction t with
    | nil => simp [insX, totalL]
    | cons b t ih =>
      rw [insX]
      simp only [totalL] at ih ⊢
      split
      · simp; omega
      · split
        · simp only [List.map_cons, List.sum_cons]; omega
        · simp; omega
  induction s with
  | nil => simp [oddL]
  | cons a s ih =>
    have h1 := h a (oddL s)
    show totalL (insX a (oddL s)) ≤ _
    have : totalL (a :: s) = a.length + totalL s := by simp [totalL]
    omega
end Go.Proofs.YtoodhbafleemjaaGreat
