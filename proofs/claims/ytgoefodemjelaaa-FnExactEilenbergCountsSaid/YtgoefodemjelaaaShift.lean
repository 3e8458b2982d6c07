/- ShiftSeries on both sides. -/
import Derived.Test.YtgoefodemjelaaaCount
namespace Go.Proofs.Ytgoefodemjelaaa
open Go.RowKit
set_option linter.unusedVariables false

theorem l18Is_bb (A : Option Addr) (n c : Nat) (xs : List Int) (w : World) (h : RdS w w.heap.size A n c xs) (hn : n ≤ 2000000) :
    Calls Try.prog 46 #[.slice A n c] w (RetBb (seriesB xs) w) := (l18Is_any A n c _ xs w h hn).mono fun _ _ h => h.bb

/-- the list moved by k, its first m numbers laid -/
def shiftAt (xs : List Int) (k m : Nat) : List Int := (List.range xs.length).map (fun j => if j < m ∧ k ≤ j then xs.getD (j - k) 0 else 0)
theorem shiftAt_length (xs : List Int) (k m : Nat) : (shiftAt xs k m).length = xs.length := by simp [shiftAt]
theorem shiftAt_start (xs : List Int) (k : Nat) : shiftAt xs k k = List.replicate xs.length 0 := by
  apply List.ext_getElem (by simp [shiftAt])
  intro j h1 h2
  simp [shiftAt]; omega
theorem shiftAt_step {xs : List Int} {k m : Nat} {x : Int} (hkm : k ≤ m) (hx : Hid (xs[m - k]? = some x)) : (shiftAt xs k m).set m x = shiftAt xs k (m + 1) := by
  apply List.ext_getElem (by simp [shiftAt])
  intro j h1 h2
  rw [List.getElem_set]
  split
  · subst j
    simp [shiftAt, hkm, hx.out]
  · rename_i hne
    simp only [shiftAt, List.getElem_map, List.getElem_range]
    have : (j < m ∧ k ≤ j) ↔ (j < m + 1 ∧ k ≤ j) := by omega
    simp only [this]
theorem shiftAt_end {xs : List Int} {k m : Nat} (h : xs.length ≤ m) : shiftAt xs k m = shiftAt xs k xs.length := by
  apply List.ext_getElem (by simp [shiftAt])
  intro j h1 h2
  rw [shiftAt_length] at h1
  simp only [shiftAt, List.getElem_map, List.getElem_range]
  have : (j < m ∧ k ≤ j) ↔ (j < xs.length ∧ k ≤ j) := by omega
  simp only [this]

def shiftN (xs : List Int) (k : Int) : Nat := if seriesB xs = true ∧ inB k 0 300 = true then xs.length else 0
def shiftL (xs : List Int) (k : Int) : List Int := if seriesB xs = true ∧ inB k 0 300 = true then shiftAt xs k.toNat xs.length else []
def shiftC (xs : List Int) (k : Int) : Int := if seriesB xs = true then if inB k 0 300 = true then 0 else 2 else 1

theorem sShiftSeries (A : Option Addr) (n c : Nat) (xs : List Int) (k : Int) (w : World) (h : RdS w w.heap.size A n c xs) (hn : n ≤ 2000000) :
    Calls Try.prog 23 #[.slice A n c, .int .i64 k] w (RetSC (shiftN xs k) (shiftL xs k) (shiftC xs k) w) := by
  have Hl := Lib.hid h.len
  have H := Lib.hid h; clear h
  cases hs : seriesB xs
  · have Hs := Lib.hid hs; clear hs
    go_enter Try.func23, Try.ntmps23
    go_wp2_with fail
    refine (l18Is_bb A n c xs _ H.out hn).mono ?_
    rintro e w1 ⟨rfl, hb1⟩
    rw [Hs.out]
    go_wp2_with fail
    go_ret2
    exact RetSC.mk (k' := 1) (by simp [shiftC, Hs.out]) (by simp [shiftN, Hs.out]) OwnS.nil (by simp [shiftL, Hs.out]) hb1
  · have Hs := Lib.hid hs
    have hlen := seriesB_len hs
    clear hs
    have hn1 : 1 ≤ n := by rw [← Hl.out]; exact hlen.1
    have hn2 : n ≤ 301 := by rw [← Hl.out]; exact hlen.2
    clear hlen
    cases hk : inB k 0 300
    · have Hk := Lib.hid hk; clear hk
      go_enter Try.func23, Try.ntmps23
      go_wp2_with fail
      refine (l18Is_bb A n c xs _ H.out hn).mono ?_
      rintro e w1 ⟨rfl, hb1⟩
      rw [Hs.out]
      go_wp2_with fail
      refine (l01In_any _ _ _ _).mono ?_
      rintro e w' ⟨rfl, rfl⟩
      rw [Hk.out]
      go_wp2_with fail
      go_ret2
      exact RetSC.mk (k' := 2) (by simp [shiftC, Hs.out, Hk.out]) (by simp [shiftN, Hk.out]) OwnS.nil (by simp [shiftL, Hk.out]) hb1
    · have hk0 := inB_iff.1 hk
      have Hk := Lib.hid hk; clear hk
      obtain ⟨k, rfl⟩ := Int.eq_ofNat_of_zero_le hk0.1
      obtain ⟨i0, hi, hz0, hz1, hz2⟩ := info_parts Try.info_i64
      go_enter Try.func23, Try.ntmps23
      go_wp2_with fail
      refine (l18Is_bb A n c xs _ H.out hn).mono ?_
      rintro e w1 ⟨rfl, hb1⟩
      have HB1 := Lib.hid hb1; clear hb1
      rw [Hs.out]
      go_wp2_with fail
      refine (l01In_any _ _ _ _).mono ?_
      rintro e w' ⟨rfl, hw'⟩
      subst hw'
      rw [Hk.out]
      obtain ⟨B, hB⟩ : ∃ B, B = w'.heap.size := ⟨_, rfl⟩
      have hBge : B ≤ w'.heap.size := by omega
      have HBw := Lib.hid (show w.heap.size ≤ B by have := HB1.out.size; omega)
      clear hB
      go_wp2_with (at_make; refine wpList_make_full _ rfl _ _ 22 rfl B 2 i0 (.int .i64 0) 1 Try.underlying22 hi hz0 hz1 .i64 .i64 _ _ n rfl rfl rfl rfl ?b2 ?b3 hBge ?_)
      case b2 => rw [hz2]; omega
      case b3 => unfold maxLen; omega
      intro w2 hown hgr
      have HO := made_own hown
      have HB2 := Lib.hid ((Below.refl _ _).grown hgr hBge (by simp)); clear hgr hown hi hz0 hz1 hz2 i0
      rw [← Hl.out, ← shiftAt_start xs k, Hl.out] at HO
      obtain ⟨g, hg⟩ : ∃ g, g = w'.heap.size := ⟨_, rfl⟩
      rw [← hg] at HO ⊢
      clear hg
      go_wp2_with fail
      go_loopw [7] (fun i wr => ∃ m : Nat, k ≤ m ∧ m ≤ k + n ∧ i = .int .i64 m ∧ OwnS wr B (some ⟨g, 0, none⟩) n n (shiftAt xs k m) ∧ Below B w' wr) (fun i _ => k + n - (intOf i).toNat)
      case atStart => exact ⟨k, by omega, by omega, rfl, HO, HB2.out⟩
      case round =>
        clear HO
        obtain ⟨m, hkm, hmn, rfl, HO, HB⟩ := hrel
        by_cases hlt : m < n
        · obtain ⟨ad, x, rfl, _, hx, hc⟩ := ((H.out.below HB1.out).below (HB.mono HBw.out)).at_ (k := m - k) (by omega)
          obtain ⟨g', y, hg', hBg, _, _, hc2, hf2, hset⟩ := HO.at_ hlt
          obtain rfl : g = g' := by simpa using hg'
          have HO2 := (hset x).1
          rw [shiftAt_step hkm hx] at HO2
          clear hset HO hg'
          go_wp2_with fail
          go_roundw
          case rel => exact ⟨m + 1, by omega, by omega, by go_num, HO2, HB.setCell hBg _⟩
          case measure => simp [intOf]; omega
        · go_wp2_with fail
          go_ret2
          refine RetSC.mk (k' := 0) (by simp [shiftC, Hs.out, Hk.out]) (by simp [shiftN, Hs.out, Hk.out, Hl.out]) (HO.mono HBw.out) ?_ (HB1.out.trans (HB.mono HBw.out))
          rw [shiftAt_end (by rw [Hl.out]; omega)]
          simp [shiftL, Hs.out, Hk.out]
theorem iShiftSeries (A : Option Addr) (n c : Nat) (xs : List Int) (k : Int) (w : World) (h : RdS w w.heap.size A n c xs) (hn : n ≤ 2000000) :
    Calls Try.prog 24 #[.slice A n c, .int .i64 k] w (RetSC (shiftN xs k) (shiftL xs k) (shiftC xs k) w) := by
  have Hl := Lib.hid h.len
  have H := Lib.hid h; clear h
  cases hs : seriesB xs
  · have Hs := Lib.hid hs; clear hs
    go_enter Try.func24, Try.ntmps24
    go_wp2_with fail
    refine (isSeries_any A n c xs _ H.out hn).mono ?_
    rintro e w1 ⟨rfl, hb1⟩
    rw [Hs.out]
    go_wp2_with fail
    go_ret2
    exact RetSC.mk (k' := 1) (by simp [shiftC, Hs.out]) (by simp [shiftN, Hs.out]) OwnS.nil (by simp [shiftL, Hs.out]) hb1
  · have Hs := Lib.hid hs
    have hlen := seriesB_len hs
    clear hs
    have hn1 : 1 ≤ n := by rw [← Hl.out]; exact hlen.1
    have hn2 : n ≤ 301 := by rw [← Hl.out]; exact hlen.2
    clear hlen
    cases hk : inB k 0 300
    · have Hk := Lib.hid hk; clear hk
      go_enter Try.func24, Try.ntmps24
      go_wp2_with fail
      refine (isSeries_any A n c xs _ H.out hn).mono ?_
      rintro e w1 ⟨rfl, hb1⟩
      rw [Hs.out]
      go_wp2_with fail
      refine (in_any _ _ _ _).mono ?_
      rintro e w' ⟨rfl, rfl⟩
      rw [Hk.out]
      go_wp2_with fail
      go_ret2
      exact RetSC.mk (k' := 2) (by simp [shiftC, Hs.out, Hk.out]) (by simp [shiftN, Hk.out]) OwnS.nil (by simp [shiftL, Hk.out]) hb1
    · have hk0 := inB_iff.1 hk
      have Hk := Lib.hid hk; clear hk
      obtain ⟨k, rfl⟩ := Int.eq_ofNat_of_zero_le hk0.1
      obtain ⟨i0, hi, hz0, hz1, hz2⟩ := info_parts Try.info_i64
      go_enter Try.func24, Try.ntmps24
      go_wp2_with fail
      refine (isSeries_any A n c xs _ H.out hn).mono ?_
      rintro e w1 ⟨rfl, hb1⟩
      have HB1 := Lib.hid hb1; clear hb1
      rw [Hs.out]
      go_wp2_with fail
      refine (in_any _ _ _ _).mono ?_
      rintro e w' ⟨rfl, hw'⟩
      subst hw'
      rw [Hk.out]
      obtain ⟨B, hB⟩ : ∃ B, B = w'.heap.size := ⟨_, rfl⟩
      have hBge : B ≤ w'.heap.size := by omega
      have HBw := Lib.hid (show w.heap.size ≤ B by have := HB1.out.size; omega)
      clear hB
      go_wp2_with (at_make; refine wpList_make_full _ rfl _ _ 22 rfl B 2 i0 (.int .i64 0) 1 Try.underlying22 hi hz0 hz1 .i64 .i64 _ _ n rfl rfl rfl rfl ?b2 ?b3 hBge ?_)
      case b2 => rw [hz2]; omega
      case b3 => unfold maxLen; omega
      intro w2 hown hgr
      have HO := made_own hown
      have HB2 := Lib.hid ((Below.refl _ _).grown hgr hBge (by simp)); clear hgr hown hi hz0 hz1 hz2 i0
      rw [← Hl.out, ← shiftAt_start xs k, Hl.out] at HO
      obtain ⟨g, hg⟩ : ∃ g, g = w'.heap.size := ⟨_, rfl⟩
      rw [← hg] at HO ⊢
      clear hg
      go_wp2_with fail
      go_loopw [7] (fun i wr => ∃ m : Nat, k ≤ m ∧ m ≤ k + n ∧ i = .int .i64 m ∧ OwnS wr B (some ⟨g, 0, none⟩) n n (shiftAt xs k m) ∧ Below B w' wr) (fun i _ => k + n - (intOf i).toNat)
      case atStart => exact ⟨k, by omega, by omega, rfl, HO, HB2.out⟩
      case round =>
        clear HO
        obtain ⟨m, hkm, hmn, rfl, HO, HB⟩ := hrel
        by_cases hlt : m < n
        · obtain ⟨ad, x, rfl, _, hx, hc⟩ := ((H.out.below HB1.out).below (HB.mono HBw.out)).at_ (k := m - k) (by omega)
          obtain ⟨g', y, hg', hBg, _, _, hc2, hf2, hset⟩ := HO.at_ hlt
          obtain rfl : g = g' := by simpa using hg'
          have HO2 := (hset x).1
          rw [shiftAt_step hkm hx] at HO2
          clear hset HO hg'
          go_wp2_with fail
          go_roundw
          case rel => exact ⟨m + 1, by omega, by omega, by go_num, HO2, HB.setCell hBg _⟩
          case measure => simp [intOf]; omega
        · go_wp2_with fail
          go_ret2
          refine RetSC.mk (k' := 0) (by simp [shiftC, Hs.out, Hk.out]) (by simp [shiftN, Hs.out, Hk.out, Hl.out]) (HO.mono HBw.out) ?_ (HB1.out.trans (HB.mono HBw.out))
          rw [shiftAt_end (by rw [Hl.out]; omega)]
          simp [shiftL, Hs.out, Hk.out]
theorem ShiftSeries_both (n : Nat) (xs : List Int) (hl : xs.length = n) (hn : n ≤ 1048576) (_hw : ∀ x ∈ xs, (Lit.int .i64 x).wf = true) (k : Int) (_wf : (Lit.int .i64 k).wf = true) :
    ∃ (m : Nat) (ys : List Int) (code : Int), m ≤ 1100000 ∧ (∀ A c w, RdS w w.heap.size A n c xs → Calls Try.prog 23 #[.slice A n c, .int .i64 k] w (RetSC m ys code w)) ∧
    (∀ A c w, RdS w w.heap.size A n c xs → Calls Try.prog 24 #[.slice A n c, .int .i64 k] w (RetSC m ys code w)) :=
  ⟨shiftN xs k, shiftL xs k, shiftC xs k, by unfold shiftN; split <;> omega, fun A c w h => sShiftSeries A n c xs k w h (by omega), fun A c w h => iShiftSeries A n c xs k w h (by omega)⟩
end Go.Proofs.Ytgoefodemjelaaa
