/- SeriesOfPolynomials on both sides. -/
import Derived.Test.YtgoefodemjelaaaSums
namespace Go.Proofs.Ytgoefodemjelaaa
open Go.RowKit
set_option linter.unusedVariables false

theorem l18One_any (n : Nat) (w : World) (h1 : 1 ≤ n) (hn : n ≤ 1000000) : Calls Try.prog 62 #[.int .i64 n] w (RetO n (oneL n) w) := by
  obtain ⟨i0, hi, hz0, hz1, hz2⟩ := info_parts Try.info_i64
  obtain ⟨B, hB⟩ : ∃ B, B = w.heap.size := ⟨_, rfl⟩
  have hBge : B ≤ w.heap.size := by omega
  have HB := Lib.hid hB; clear hB
  go_enter Try.func62, Try.ntmps62
  go_wp2_with (at_make; refine wpList_make_full _ rfl _ _ 22 rfl B 2 i0 (.int .i64 0) 1 Try.underlying22 hi hz0 hz1 .i64 .i64 _ _ n rfl rfl rfl rfl ?b2 ?b3 hBge ?_)
  case b2 => rw [hz2]; omega
  case b3 => unfold maxLen; omega
  intro w1 hown hgr
  have HBe : Below B w w1 := (Below.refl _ _).grown hgr hBge (by simp)
  obtain ⟨g, x, hg, hBg, _, _, hc, hf, hset⟩ := (made_own hown).at_ (show 0 < n by omega)
  have HO := Lib.hid (hset 1).1
  have HBe := Lib.hid (HBe.setCell (p := ⟨g, 0, none⟩) hBg (.int .i64 1))
  rw [hg] at hown ⊢
  clear hown hgr hset hg hBge hi hz0 hz1 hz2 i0
  go_wp2_with fail
  go_ret
  exact ⟨_, _, rfl, HB.out ▸ HO.out, HB.out ▸ HBe.out⟩

/-- j factors 1/(1 - t) -/
def polyIt (e : Nat) : Nat → List Int → List Int
  | 0, xs => xs
  | j + 1, xs => polyIt e j (addFrom 1 e xs 1)
theorem polyIt_length (e j : Nat) (xs : List Int) : (polyIt e j xs).length = xs.length := by
  induction j generalizing xs with
  | zero => rfl
  | succ j ih => rw [polyIt, ih, addFrom_length]
def polyX (k d : Nat) : List Int := polyIt (d + 1) k (oneL (d + 1))
theorem polyX_length (k d : Nat) : (polyX k d).length = d + 1 := by rw [polyX, polyIt_length, oneL_length]

def pokB (k d : Int) : Bool := inB k 1 8 && inB d 0 300
def polySN (k d : Int) : Nat := if pokB k d = true ∧ (polyX k.toNat d.toNat).all smallB = true then d.toNat + 1 else 0
def polySL (k d : Int) : List Int := if pokB k d = true ∧ (polyX k.toNat d.toNat).all smallB = true then polyX k.toNat d.toNat else []
def polySC (k d : Int) : Int := if pokB k d = true then if (polyX k.toNat d.toNat).all smallB = true then 0 else 3 else 2

theorem sSeriesOfPolynomials_no (k d : Int) (w : World) (h : pokB k d = false) : Calls Try.prog 34 #[.int .i64 k, .int .i64 d] w (RetSC (polySN k d) (polySL k d) (polySC k d) w) := by
  have Hp := Lib.hid h; clear h
  cases hk : inB k 1 8
  · have Hk := Lib.hid hk; clear hk
    go_enter Try.func34, Try.ntmps34
    go_wp2_with fail
    refine (l01In_any _ _ _ _).mono ?_
    rintro e w' ⟨rfl, rfl⟩
    rw [Hk.out]
    go_wp2_with fail
    go_ret2
    exact RetSC.mk (k' := 2) (by simp [polySC, Hp.out]) (by simp [polySN, Hp.out]) OwnS.nil (by simp [polySL, Hp.out]) (Below.refl _ _)
  · have Hk := Lib.hid hk; clear hk
    have Hd : Hid (inB d 0 300 = false) := Lib.hid (by have := Hp.out; simpa [pokB, Hk.out] using this)
    go_enter Try.func34, Try.ntmps34
    go_wp2_with fail
    refine (l01In_any _ _ _ _).mono ?_
    rintro e w' ⟨rfl, rfl⟩
    rw [Hk.out]
    go_wp2_with fail
    refine (l01In_any _ _ _ _).mono ?_
    rintro e w' ⟨rfl, rfl⟩
    rw [Hd.out]
    go_wp2_with fail
    go_ret2
    exact RetSC.mk (k' := 2) (by simp [polySC, Hp.out]) (by simp [polySN, Hp.out]) OwnS.nil (by simp [polySL, Hp.out]) (Below.refl _ _)
theorem iSeriesOfPolynomials_no (k d : Int) (w : World) (h : pokB k d = false) : Calls Try.prog 35 #[.int .i64 k, .int .i64 d] w (RetSC (polySN k d) (polySL k d) (polySC k d) w) := by
  have Hp := Lib.hid h; clear h
  cases hk : inB k 1 8
  · have Hk := Lib.hid hk; clear hk
    go_enter Try.func35, Try.ntmps35
    go_wp2_with fail
    refine (in_any _ _ _ _).mono ?_
    rintro e w' ⟨rfl, rfl⟩
    rw [Hk.out]
    go_wp2_with fail
    go_ret2
    exact RetSC.mk (k' := 2) (by simp [polySC, Hp.out]) (by simp [polySN, Hp.out]) OwnS.nil (by simp [polySL, Hp.out]) (Below.refl _ _)
  · have Hk := Lib.hid hk; clear hk
    have Hd : Hid (inB d 0 300 = false) := Lib.hid (by have := Hp.out; simpa [pokB, Hk.out] using this)
    go_enter Try.func35, Try.ntmps35
    go_wp2_with fail
    refine (in_any _ _ _ _).mono ?_
    rintro e w' ⟨rfl, rfl⟩
    rw [Hk.out]
    go_wp2_with fail
    refine (isPlaces_any _ _).mono ?_
    rintro e w' ⟨rfl, rfl⟩
    rw [Hd.out]
    go_wp2_with fail
    go_ret2
    exact RetSC.mk (k' := 2) (by simp [polySC, Hp.out]) (by simp [polySN, Hp.out]) OwnS.nil (by simp [polySL, Hp.out]) (Below.refl _ _)

theorem sSeriesOfPolynomials_yes (k d : Nat) (w : World) (h : pokB k d = true) : Calls Try.prog 34 #[.int .i64 k, .int .i64 d] w (RetSC (polySN k d) (polySL k d) (polySC k d) w) := by
  have hp : inB k 1 8 = true ∧ inB d 0 300 = true := by simpa [pokB] using h
  have hk := inB_iff.1 hp.1
  have hd := inB_iff.1 hp.2
  have Hk := Lib.hid hp.1
  have Hd := Lib.hid hp.2
  have Hp := Lib.hid h
  clear hp h
  go_enter Try.func34, Try.ntmps34
  go_wp2_with fail
  refine (l01In_any _ _ _ _).mono ?_
  rintro e w' ⟨rfl, rfl⟩
  rw [Hk.out]
  go_wp2_with fail
  refine (l01In_any _ _ _ _).mono ?_
  rintro e w' ⟨rfl, rfl⟩
  rw [Hd.out]
  go_wp2_with fail
  refine (l18One_any (d + 1) _ (by omega) (by omega)).mono ?_
  rintro e w1 ⟨A1, c1, rfl, ho, hb⟩
  have HO := Lib.hid ho; clear ho
  have HB := Lib.hid hb; clear hb
  have HBw := Lib.hid (Nat.le_refl w'.heap.size)
  obtain ⟨B, hB⟩ : ∃ B, B = w'.heap.size := ⟨_, rfl⟩
  rw [← hB] at HO HB
  have HBe := Lib.hid hB; clear hB HBw
  go_wp2_with fail
  go_loopw [0, 6] (fun r o wr => ∃ (j c : Nat) (A : Option Addr) (xs : List Int), j ≤ 8 ∧ r = .int .i64 j ∧ o = .slice A (d + 1) c ∧ OwnS wr B A (d + 1) c xs ∧ Below B w' wr ∧ Hid (polyIt (d + 1) j xs = polyX k d)) (fun r _ _ => (intOf r).toNat)
  case atStart => exact ⟨k, _, _, _, by omega, rfl, rfl, HO.out, HB.out, Lib.hid rfl⟩
  case round =>
    clear HO HB
    obtain ⟨j, c, A, xs, hj, rfl, rfl, HO, HB, HC⟩ := hrel
    have HO1 := Lib.hid HO; clear HO
    have HB1 := Lib.hid HB; clear HB
    rcases Nat.eq_zero_or_pos j with rfl | hpos
    · go_wp2_with fail
      refine (l18Fit_any A (d + 1) c _ _ HO1.out.rd (by omega) (by omega)).mono ?_
      rintro e w3 ⟨⟨hp, rfl⟩ | ⟨hp, rfl⟩, hb3⟩
      all_goals
        have hp' := hp.out
        rw [show xs = polyX k d from HC.out] at hp'
        have HB3 := Lib.hid (HB1.out.trans (hb3.mono (by have := HB1.out.size; have := HBe.out; omega)))
        have HO3 := Lib.hid (HO1.out.below hb3); clear hb3
        have Hp' := Lib.hid hp'; clear hp'
        go_wp2_with fail
        go_ret2
        first
          | exact RetSC.mk (k' := 0) (by simp [polySC, Hp.out, Hp'.out]) (by simp [polySN, Hp.out, Hp'.out]) (HBe.out ▸ HO3.out) (by simp [polySL, Hp.out, Hp'.out]; exact HC.out) (HBe.out ▸ HB3.out)
          | exact RetSC.mk (k' := 3) (by simp [polySC, Hp.out, Hp'.out]) (by simp [polySN, Hp.out, Hp'.out]) OwnS.nil (by simp [polySL, Hp.out, Hp'.out]) (HBe.out ▸ HB3.out)
    · obtain ⟨j, rfl⟩ : ∃ i, j = i + 1 := ⟨j - 1, by omega⟩
      go_wp2_with fail
      refine (l18With_any A (d + 1) c xs 1 _ HO1.out.rd (by omega) (by omega) (by omega)).mono ?_
      rintro e w3 ⟨A3, c3, rfl, ho3, hb3⟩
      have hBs : B ≤ wr.heap.size := by have := HB1.out.size; have := HBe.out; omega
      have HO3 := Lib.hid (ho3.mono hBs); clear ho3
      have HB3 := Lib.hid (HB1.out.trans (hb3.mono hBs)); clear hb3 hBs
      go_wp2_with fail
      go_roundw
      case rel => exact ⟨j, _, _, _, by omega, by go_num, rfl, HO3.out, HB3.out, HC⟩
      case measure => simp [intOf]

theorem iSeriesOfPolynomials_yes (k d : Nat) (w : World) (h : pokB k d = true) : Calls Try.prog 35 #[.int .i64 k, .int .i64 d] w (RetSC (polySN k d) (polySL k d) (polySC k d) w) := by
  have hp : inB k 1 8 = true ∧ inB d 0 300 = true := by simpa [pokB] using h
  have hk := inB_iff.1 hp.1
  have hd := inB_iff.1 hp.2
  have Hk := Lib.hid hp.1
  have Hd := Lib.hid hp.2
  have Hp := Lib.hid h
  clear hp h
  obtain ⟨i0, hi, hz0, hz1, hz2⟩ := info_parts Try.info_i64
  go_enter Try.func35, Try.ntmps35
  go_wp2_with fail
  refine (in_any _ _ _ _).mono ?_
  rintro e w' ⟨rfl, rfl⟩
  rw [Hk.out]
  go_wp2_with fail
  refine (isPlaces_any _ _).mono ?_
  rintro e w' ⟨rfl, rfl⟩
  rw [Hd.out]
  obtain ⟨B, hB⟩ : ∃ B, B = w'.heap.size := ⟨_, rfl⟩
  have hBge : B ≤ w'.heap.size := by omega
  have HBe := Lib.hid hB; clear hB
  go_wp2_with (at_make; refine wpList_make_full _ rfl _ _ 22 rfl B 2 i0 (.int .i64 0) 1 Try.underlying22 hi hz0 hz1 .i64 .i64 _ _ (d+1) rfl rfl (by omega) (by omega) ?b2 ?b3 hBge ?_)
  case b2 => rw [hz2]; omega
  case b3 => unfold maxLen; omega
  intro w1 hown hgr
  have HB1 : Below B w' w1 := (Below.refl _ _).grown hgr hBge (by simp)
  obtain ⟨g, x, hg, hBg, _, _, hc, hf, hset⟩ := (made_own hown).at_ (show 0 < d + 1 by omega)
  have HO := Lib.hid (hset 1).1
  have HB := Lib.hid (HB1.setCell (p := ⟨g, 0, none⟩) hBg (.int .i64 1))
  rw [hg] at hown ⊢
  clear hown hgr hset hg hBge hi hz0 hz1 hz2 i0 HB1
  go_wp2_with fail
  clear hc hf
  go_loopw [22] (fun r wr => ∃ (j : Nat) (xs : List Int), j ≤ k ∧ r = .int .i64 j ∧ OwnS wr B (some ⟨g, 0, none⟩) (d + 1) (d + 1) xs ∧ Below B w' wr ∧ Hid (polyIt (d + 1) (k - j) xs = polyX k d)) (fun r _ => k - (intOf r).toNat)
  case atStart => exact ⟨0, _, by omega, rfl, HO.out, HB.out, Lib.hid rfl⟩
  case round =>
    clear HO HB
    obtain ⟨j, xs, hj, rfl, HO, HB, HC⟩ := hrel
    have HO1 := Lib.hid HO; clear HO
    have HB1 := Lib.hid HB; clear HB
    by_cases hjk : j < k
    · go_wp2_with fail
      obtain ⟨w0, hw0⟩ : ∃ w0 : World, w0 = wr := ⟨_, rfl⟩
      clear hw0
      go_loopw [7] (fun m wr => ∃ (i : Nat) (ys : List Int), 1 ≤ i ∧ i ≤ d + 1 ∧ m = .int .i64 i ∧ OwnS wr B (some ⟨g, 0, none⟩) (d + 1) (d + 1) ys ∧ Below B w' wr ∧ Hid (addFrom 1 (d + 1) ys i = addFrom 1 (d + 1) xs 1)) (fun m _ => d + 1 - (intOf m).toNat)
      case atStart => exact ⟨1, xs, by omega, by omega, rfl, HO1.out, HB1.out, Lib.hid rfl⟩
      case round =>
        clear HO1 HB1
        obtain ⟨i, ys, hqi, hid, rfl, HO, HB, HA⟩ := hrel
        by_cases hlt : i < d + 1
        · obtain ⟨g', x, y, hg', hBg', hcx, hcy, hfx, hx, hy, hset⟩ := HO.two (p := 1) hlt
          obtain rfl : g = g' := by simpa using hg'
          have HO2 := hset (wrap64 (x + y))
          rw [← addP_of hx hy] at HO2
          have HA2 := Lib.hid ((addFrom_step hlt).symm.trans HA.out)
          clear hset HO HA hg'
          go_wp2_with fail
          go_region
          go_wp2_with fail
          go_roundw
          case rel => exact ⟨i + 1, _, by omega, by omega, by go_num, HO2.drew, (HB.setCell hBg' _).drew, HA2⟩
          case measure => simp [intOf]; omega
        · have HO2 := Lib.hid HO; clear HO
          have HB2 := Lib.hid HB; clear HB
          have h3 := HA.out
          rw [addFrom_end (by omega)] at h3
          have H3 := Lib.hid h3; clear h3
          go_wp2_with fail
          go_roundw
          case rel => exact ⟨j + 1, ys, by omega, by go_num, HO2.out, HB2.out, Lib.hid (by rw [H3.out]; have h4 := HC.out; rw [show k - j = (k - (j + 1)) + 1 from by omega, polyIt] at h4; exact h4)⟩
          case measure => simp [intOf]; omega
    · obtain rfl : j = k := by omega
      rw [Nat.sub_self, polyIt] at HC
      go_wp2_with fail
      refine (limited_any _ (d + 1) (d + 1) xs _ HO1.out.rd (by omega)).mono ?_
      rintro e w3 ⟨⟨hp, rfl⟩ | ⟨hp, rfl⟩, hb3⟩
      all_goals
        have hp' := hp.out
        rw [show xs = polyX j d from HC.out] at hp'
        have HB3 := Lib.hid (HB1.out.trans (hb3.mono (by have := HB1.out.size; have := HBe.out; omega)))
        have HO3 := Lib.hid (HO1.out.below hb3); clear hb3
        have Hp' := Lib.hid hp'; clear hp'
        go_wp2_with fail
        go_ret2
        first
          | exact RetSC.mk (k' := 0) (by simp [polySC, Hp.out, Hp'.out]) (by simp [polySN, Hp.out, Hp'.out]) (HBe.out ▸ HO3.out) (by simp [polySL, Hp.out, Hp'.out]; exact HC.out) (HBe.out ▸ HB3.out)
          | exact RetSC.mk (k' := 3) (by simp [polySC, Hp.out, Hp'.out]) (by simp [polySN, Hp.out, Hp'.out]) OwnS.nil (by simp [polySL, Hp.out, Hp'.out]) (HBe.out ▸ HB3.out)

theorem SeriesOfPolynomials_both (k d : Int) (_wk : (Lit.int .i64 k).wf = true) (_wd : (Lit.int .i64 d).wf = true) : ∃ (n : Nat) (xs : List Int) (c : Int), n ≤ 1000000 ∧
    (∀ w, Calls Try.prog 34 #[.int .i64 k, .int .i64 d] w (RetSC n xs c w)) ∧ (∀ w, Calls Try.prog 35 #[.int .i64 k, .int .i64 d] w (RetSC n xs c w)) := by
  refine ⟨polySN k d, polySL k d, polySC k d, ?_, ?_⟩
  · unfold polySN
    split
    · rename_i h
      have hp : inB k 1 8 = true ∧ inB d 0 300 = true := by simpa [pokB] using h.1
      have := inB_iff.1 hp.2
      omega
    · omega
  · cases h : pokB k d
    · exact ⟨fun w => sSeriesOfPolynomials_no k d w h, fun w => iSeriesOfPolynomials_no k d w h⟩
    · have hp : inB k 1 8 = true ∧ inB d 0 300 = true := by simpa [pokB] using h
      have hk := inB_iff.1 hp.1
      have hd := inB_iff.1 hp.2
      obtain ⟨k, rfl⟩ := Int.eq_ofNat_of_zero_le (show 0 ≤ k by omega)
      obtain ⟨d, rfl⟩ := Int.eq_ofNat_of_zero_le (show 0 ≤ d by omega)
      exact ⟨fun w => sSeriesOfPolynomials_yes k d w h, fun w => iSeriesOfPolynomials_yes k d w h⟩
end Go.Proofs.Ytgoefodemjelaaa
