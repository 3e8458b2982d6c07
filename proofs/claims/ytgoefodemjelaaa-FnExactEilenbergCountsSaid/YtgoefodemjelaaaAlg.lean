/- SeriesOfFreeAlgebra on both sides; EilenbergCounts of the program. -/
import Derived.Test.YtgoefodemjelaaaUnst
import Derived.Test.YtgoefodemjelaaaInv
namespace Go.Proofs.Ytgoefodemjelaaa
open Go.RowKit
set_option linter.unusedVariables false

theorem monoAt_skip1 (e n : Nat) (gs xs : List Int) (h : ∀ x, gs[n]? = some x → x = 0) : monoAt e (gs.drop n) n xs = monoAt e (gs.drop (n + 1)) (n + 1) xs := by
  by_cases hn : n < gs.length
  · have h0 := h gs[n] (List.getElem?_eq_getElem hn)
    rw [List.drop_eq_getElem_cons hn, monoAt, h0]
    rfl
  · rw [List.drop_of_length_le (by omega), List.drop_of_length_le (by omega)]; rfl
theorem monoAt_skip (e n : Nat) (gs xs : List Int) (h : ∀ j x, j < n → gs[j]? = some x → x = 0) : monoAt e gs 0 xs = monoAt e (gs.drop n) n xs := by
  induction n with
  | zero => rfl
  | succ n ih => rw [ih (fun j x hj => h j x (by omega)), monoAt_skip1 e n gs xs (fun x => h n x (by omega))]
theorem freeL_low (e : Nat) (ex : Int) (d : Nat) : ∀ j x, j < e → (freeL e ex d)[j]? = some x → x = 0 := by
  intro j x hj hx
  simp only [freeL, List.getElem?_map, Option.map_eq_some_iff] at hx
  obtain ⟨i, hi, hx⟩ := hx
  obtain ⟨hi', rfl⟩ := List.getElem?_eq_some_iff.1 hi
  rw [List.getElem_range, if_neg (by omega)] at hx
  exact hx.symm

/-- the series of the free algebra, before the test of its size -/
def faX (e d : Nat) : List Int := monoX (freeL e ((e : Int) - 1) d)
def faN (n d : Int) : Nat := if okR 1 40 n d = true ∧ (faX n.toNat d.toNat).all smallB = true then d.toNat + 1 else 0
def faL (n d : Int) : List Int := if okR 1 40 n d = true ∧ (faX n.toNat d.toNat).all smallB = true then faX n.toNat d.toNat else []
def faC (n d : Int) : Int := if okR 1 40 n d = true then if (faX n.toNat d.toNat).all smallB = true then 0 else 3 else 2

theorem iSeriesOfFreeAlgebra_yes (n d : Nat) (w : World) (h : okR 1 40 n d = true) : Calls Try.prog 45 #[.int .i64 n, .int .i64 d] w (RetSC (faN n d) (faL n d) (faC n d) w) := by
  have hp : inB n 1 40 = true ∧ inB d 0 40 = true := by simpa [okR] using h
  have hk := inB_iff.1 hp.1
  have hd := inB_iff.1 hp.2
  have Hk := Lib.hid hp.1
  have Hd := Lib.hid hp.2
  have Hp := Lib.hid h
  obtain ⟨G, hG⟩ : ∃ G, G = freeL n ((n : Int) - 1) d := ⟨_, rfl⟩
  obtain ⟨X, hX⟩ : ∃ X, X = monoX G := ⟨_, rfl⟩
  have HX : Hid (faX n d = X) := Lib.hid (by rw [hX, hG]; rfl)
  have HF := Lib.hid (freeCounts_any n d ((n : Int) - 1) w (by omega) (by omega))
  have HM := Lib.hid (freeL_mem n ((n : Int) - 1) d (by omega))
  rw [← hG] at HF HM
  have HXG := Lib.hid hX
  clear hp h hG hX
  go_enter Try.func45, Try.ntmps45
  go_wp2_with fail
  refine (in_any _ _ _ _).mono ?_
  rintro e w' ⟨rfl, rfl⟩
  rw [Hk.out]
  go_wp2_with fail
  refine (isDegree_any _ _).mono ?_
  rintro e w' ⟨rfl, rfl⟩
  rw [Hd.out]
  go_wp2_with fail
  refine HF.out.mono ?_
  rintro e w1 ⟨A1, c1, rfl, ho1, hb1⟩
  have HO1 := Lib.hid ho1; clear ho1
  have HB1 := Lib.hid hb1; clear hb1
  go_wp2_with fail
  refine (monomialCounts_any _ (d + 1) c1 G _ HO1.out.rd (by omega) (by omega) HM.out).mono ?_
  rintro e w3 ⟨A3, c3, rfl, ho3, hb3⟩
  rw [← HXG.out] at ho3
  have HO3 := Lib.hid (ho3.mono HB1.out.size); clear ho3
  have HB3 := Lib.hid (HB1.out.trans (hb3.mono HB1.out.size)); clear hb3
  go_wp2_with fail
  refine (limited_any _ (d + 1) _ X _ HO3.out.rd (by omega)).mono ?_
  rintro e w4 ⟨⟨hp, rfl⟩ | ⟨hp, rfl⟩, hb4⟩
  all_goals
    have hp' := hp.out
    rw [← HX.out] at hp'
    have HB4 := Lib.hid (HB3.out.trans (hb4.mono HB3.out.size))
    have HO4 := Lib.hid (HO3.out.below hb4); clear hb4
    have Hp' := Lib.hid hp'; clear hp'
    go_wp2_with fail
    go_ret2
    first
      | exact RetSC.mk (k' := 0) (by simp [faC, Hp.out, Hp'.out]) (by simp [faN, Hp.out, Hp'.out]) HO4.out (by simp [faL, Hp.out, Hp'.out]; exact HX.out.symm) HB4.out
      | exact RetSC.mk (k' := 3) (by simp [faC, Hp.out, Hp'.out]) (by simp [faN, Hp.out, Hp'.out]) OwnS.nil (by simp [faL, Hp.out, Hp'.out]) HB4.out

theorem iEilenbergCounts_yes (n d : Nat) (w : World) (h : okR 1 20 n d = true) : Calls Try.prog 43 #[.int .i64 n, .int .i64 d] w (RetSC (d + 1) (faX n d) 0 w) := by
  have hp : inB n 1 20 = true ∧ inB d 0 40 = true := by simpa [okR] using h
  have hk := inB_iff.1 hp.1
  have hd := inB_iff.1 hp.2
  have Hk := Lib.hid hp.1
  have Hd := Lib.hid hp.2
  obtain ⟨G, hG⟩ : ∃ G, G = freeL n ((n : Int) - 1) d := ⟨_, rfl⟩
  obtain ⟨X, hX⟩ : ∃ X, X = monoX G := ⟨_, rfl⟩
  rw [show faX n d = X by rw [hX, hG]; rfl]
  have HF := Lib.hid (freeCounts_any n d ((n : Int) - 1) w (by omega) (by omega))
  have HM := Lib.hid (freeL_mem n ((n : Int) - 1) d (by omega))
  rw [← hG] at HF HM
  have HXG := Lib.hid hX
  clear hp h hG hX
  go_enter Try.func43, Try.ntmps43
  go_wp2_with fail
  refine (in_any _ _ _ _).mono ?_
  rintro e w' ⟨rfl, rfl⟩
  rw [Hk.out]
  go_wp2_with fail
  refine (isDegree_any _ _).mono ?_
  rintro e w' ⟨rfl, rfl⟩
  rw [Hd.out]
  go_wp2_with fail
  refine HF.out.mono ?_
  rintro e w1 ⟨A1, c1, rfl, ho1, hb1⟩
  have HO1 := Lib.hid ho1; clear ho1
  have HB1 := Lib.hid hb1; clear hb1
  go_wp2_with fail
  refine (monomialCounts_any _ (d + 1) c1 G _ HO1.out.rd (by omega) (by omega) HM.out).mono ?_
  rintro e w3 ⟨A3, c3, rfl, ho3, hb3⟩
  rw [← HXG.out] at ho3
  have HO3 := Lib.hid (ho3.mono HB1.out.size); clear ho3
  have HB3 := Lib.hid (HB1.out.trans (hb3.mono HB1.out.size)); clear hb3
  go_wp2_with fail
  go_ret2
  exact RetSC.mk (k' := 0) rfl rfl HO3.out rfl HB3.out

theorem sSeriesOfFreeAlgebra_yes (n d : Nat) (w : World) (h : okR 1 40 n d = true) : Calls Try.prog 44 #[.int .i64 n, .int .i64 d] w (RetSC (faN n d) (faL n d) (faC n d) w) := by
  have hp : inB n 1 40 = true ∧ inB d 0 40 = true := by simpa [okR] using h
  have hk := inB_iff.1 hp.1
  have hd := inB_iff.1 hp.2
  have Hk := Lib.hid hp.1
  have Hd := Lib.hid hp.2
  have Hp := Lib.hid h
  obtain ⟨G, hG⟩ : ∃ G, G = freeL n ((n : Int) - 1) d := ⟨_, rfl⟩
  obtain ⟨X, hX⟩ : ∃ X, X = monoX G := ⟨_, rfl⟩
  have HX : Hid (faX n d = X) := Lib.hid (by rw [hX, hG]; rfl)
  have HGl := Lib.hid (show G.length = d + 1 by rw [hG, freeL_length])
  have HF := Lib.hid (l18Free_any n d ((n : Int) - 1) w (by omega) (by omega))
  have HM := Lib.hid (freeL_mem n ((n : Int) - 1) d (by omega))
  have HL := Lib.hid (freeL_low n ((n : Int) - 1) d)
  rw [← hG] at HF HM HL
  have HXG : Hid (monoAt (d + 1) (G.drop 1) 1 (oneL (d + 1)) = X) := Lib.hid (by
    rw [hX, monoX, HGl.out, monoAt_skip _ 1 G _ (fun j x hj => HL.out j x (by omega))])
  clear hp h hG hX
  go_enter Try.func44, Try.ntmps44
  go_wp2_with fail
  refine (l01In_any _ _ _ _).mono ?_
  rintro e w' ⟨rfl, rfl⟩
  rw [Hk.out]
  go_wp2_with fail
  refine (l01In_any _ _ _ _).mono ?_
  rintro e w' ⟨rfl, rfl⟩
  rw [Hd.out]
  go_wp2_with fail
  refine HF.out.mono ?_
  rintro e w1 ⟨A1, c1, rfl, ho1, hb1⟩
  have HG1 := Lib.hid ho1.rd; clear ho1
  have HB1 := Lib.hid hb1; clear hb1
  obtain ⟨B, hB⟩ : ∃ B, B = w1.heap.size := ⟨_, rfl⟩
  rw [← hB] at HG1
  have HBw := Lib.hid (show w'.heap.size ≤ B by rw [hB]; exact HB1.out.size)
  go_wp2_with fail
  refine (l18One_any (d + 1) _ (by omega) (by omega)).mono ?_
  rintro e w2 ⟨A2, c2, rfl, ho, hb⟩
  rw [← hB] at ho hb
  have HBe := Lib.hid (Nat.le_of_eq hB)
  have HO := Lib.hid ho; clear ho
  have HB := Lib.hid hb; clear hb hB
  go_wp2_with fail
  go_loopw [7, 8] (fun o r wr => ∃ (i c : Nat) (A : Option Addr) (xs : List Int), i ≤ d + 1 ∧ 1 ≤ i ∧ r = .int .i64 i ∧ o = .slice A (d + 1) c ∧ OwnS wr B A (d + 1) c xs ∧ Below B w1 wr ∧ Hid (monoAt (d + 1) (G.drop i) i xs = X)) (fun _ r _ => 100 - (intOf r).toNat)
  case atStart => exact ⟨1, _, _, _, by omega, by omega, rfl, rfl, HO.out, HB.out, HXG⟩
  case round =>
    clear HO HB
    obtain ⟨i, c, A, xs, hi, hi1, rfl, rfl, HO, HB, HC⟩ := hrel
    have HO1 := Lib.hid HO; clear HO
    have HB2 := Lib.hid HB; clear HB
    by_cases hid : i ≤ d
    · obtain ⟨ad, m, rfl, _, hm, hcm⟩ := (HG1.out.below HB2.out).at_ (k := i) (by omega)
      obtain ⟨hm0, hm1⟩ := HM.out m (mem_of hm)
      obtain ⟨m, rfl⟩ := Int.eq_ofNat_of_zero_le hm0
      have HC2 : Hid (monoAt (d + 1) (G.drop (i + 1)) (i + 1) (timesIt (d + 1) i m xs) = X) := Lib.hid (by
        have h1 := HC.out
        obtain ⟨hk', hmk⟩ := List.getElem?_eq_some_iff.1 hm.out
        rw [List.drop_eq_getElem_cons hk', hmk, monoAt] at h1
        exact h1)
      go_wp2_with fail
      clear hcm
      obtain ⟨w0, hw0⟩ : ∃ w0 : World, w0 = wr := ⟨_, rfl⟩
      clear hw0
      go_loopw [7, 9] (fun o r wr => ∃ (j c : Nat) (A : Option Addr) (ys : List Int), j ≤ m ∧ r = .int .i64 j ∧ o = .slice A (d + 1) c ∧ OwnS wr B A (d + 1) c ys ∧ Below B w1 wr ∧ Hid (timesIt (d + 1) i j ys = timesIt (d + 1) i m xs)) (fun _ r _ => (intOf r).toNat)
      case atStart => exact ⟨m, _, _, xs, by omega, rfl, rfl, HO1.out, HB2.out, Lib.hid rfl⟩
      case round =>
        clear HO1 HB2
        obtain ⟨j, c, A, ys, hj, rfl, rfl, HO, HB, HT⟩ := hrel
        have HO1 := Lib.hid HO; clear HO
        have HB2 := Lib.hid HB; clear HB
        rcases Nat.eq_zero_or_pos j with rfl | hpos
        · have h3 := HT.out
          rw [timesIt] at h3
          have H3 := Lib.hid h3; clear h3
          go_wp2_with fail
          go_roundw
          case rel => exact ⟨i + 1, _, _, ys, by omega, by omega, by go_num, rfl, HO1.out, HB2.out, Lib.hid (by rw [H3.out]; exact HC2.out)⟩
          case measure => simp [intOf]; omega
        · obtain ⟨j, rfl⟩ : ∃ q, j = q + 1 := ⟨j - 1, by omega⟩
          go_wp2_with fail
          refine (l18With_any A (d + 1) c _ i _ HO1.out.rd (by omega) (by omega) (by omega)).mono ?_
          rintro e w3 ⟨A3, c3, rfl, ho3, hb3⟩
          have hBs : B ≤ wr.heap.size := by have := HB2.out.size; have := HBe.out; omega
          have HO3 := Lib.hid (ho3.mono hBs); clear ho3
          have HB3 := Lib.hid (HB2.out.trans (hb3.mono hBs)); clear hb3 hBs
          go_wp2_with fail
          go_roundw
          case rel => exact ⟨j, _, _, _, by omega, by go_num, rfl, HO3.out, HB3.out, HT⟩
          case measure => simp [intOf]
    · obtain rfl : i = d + 1 := by omega
      have h3 := HC.out
      rw [List.drop_of_length_le (by rw [HGl.out]; omega), monoAt] at h3
      have H3 := Lib.hid h3; clear h3
      go_wp2_with fail
      refine (l18Fit_any A (d + 1) c _ _ HO1.out.rd (by omega) (by omega)).mono ?_
      rintro e w3 ⟨⟨hp, rfl⟩ | ⟨hp, rfl⟩, hb3⟩
      all_goals
        have hp' := hp.out
        rw [H3.out, ← HX.out] at hp'
        have HB3 := Lib.hid (HB1.out.trans ((HB2.out.trans (hb3.mono (Nat.le_trans HBe.out HB2.out.size))).mono HBw.out))
        have HO3 := Lib.hid ((HO1.out.below hb3).mono HBw.out); clear hb3
        have Hp' := Lib.hid hp'; clear hp'
        go_wp2_with fail
        go_ret2
        first
          | exact RetSC.mk (k' := 0) (by simp [faC, Hp.out, Hp'.out]) (by simp [faN, Hp.out, Hp'.out]) HO3.out (by simp [faL, Hp.out, Hp'.out]; rw [H3.out]; exact HX.out.symm) HB3.out
          | exact RetSC.mk (k' := 3) (by simp [faC, Hp.out, Hp'.out]) (by simp [faN, Hp.out, Hp'.out]) OwnS.nil (by simp [faL, Hp.out, Hp'.out]) HB3.out

theorem SeriesOfFreeAlgebra_both (n d : Int) (_wk : (Lit.int .i64 n).wf = true) (_wd : (Lit.int .i64 d).wf = true) : ∃ (l : Nat) (xs : List Int) (c : Int), l ≤ 1000000 ∧
    (∀ w, Calls Try.prog 44 #[.int .i64 n, .int .i64 d] w (RetSC l xs c w)) ∧ (∀ w, Calls Try.prog 45 #[.int .i64 n, .int .i64 d] w (RetSC l xs c w)) := by
  cases h : okR 1 40 n d
  · exact ⟨0, [], 2, by omega, fun w => sSeriesOfFreeAlgebra_no n d w h, fun w => iSeriesOfFreeAlgebra_no n d w h⟩
  · have hp : inB n 1 40 = true ∧ inB d 0 40 = true := by simpa [okR] using h
    have hk := inB_iff.1 hp.1
    have hd := inB_iff.1 hp.2
    obtain ⟨n, rfl⟩ := Int.eq_ofNat_of_zero_le (show 0 ≤ n by omega)
    obtain ⟨d, rfl⟩ := Int.eq_ofNat_of_zero_le (show 0 ≤ d by omega)
    exact ⟨faN n d, faL n d, faC n d, by unfold faN; split <;> omega, fun w => sSeriesOfFreeAlgebra_yes n d w h, fun w => iSeriesOfFreeAlgebra_yes n d w h⟩
end Go.Proofs.Ytgoefodemjelaaa
