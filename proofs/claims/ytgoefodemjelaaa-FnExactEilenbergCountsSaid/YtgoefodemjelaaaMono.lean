/- monomialCounts: one factor 1/(1 - t^g) for each generator; SeriesOfInvariants on both sides. -/
import Derived.Test.YtgoefodemjelaaaPolyS
import Derived.Test.YtgoefodemjelaaaComm
namespace Go.Proofs.Ytgoefodemjelaaa
open Go.RowKit
set_option linter.unusedVariables false

/-- j factors 1/(1 - t^g) -/
def timesIt (e g : Nat) : Nat → List Int → List Int
  | 0, xs => xs
  | j + 1, xs => timesIt e g j (addFrom g e xs g)
theorem timesIt_length (e g j : Nat) (xs : List Int) : (timesIt e g j xs).length = xs.length := by
  induction j generalizing xs with
  | zero => rfl
  | succ j ih => rw [timesIt, ih, addFrom_length]
/-- for each g from some place on so many factors as the list tells -/
def monoAt (e : Nat) : List Int → Nat → List Int → List Int
  | [], _, xs => xs
  | m :: ms, g, xs => monoAt e ms (g + 1) (timesIt e g m.toNat xs)
theorem monoAt_length (e : Nat) (ms : List Int) (g : Nat) (xs : List Int) : (monoAt e ms g xs).length = xs.length := by
  induction ms generalizing g xs with
  | nil => rfl
  | cons m ms ih => rw [monoAt, ih, timesIt_length]
def monoX (gs : List Int) : List Int := monoAt gs.length gs 0 (oneL gs.length)
theorem monoX_length (gs : List Int) : (monoX gs).length = gs.length := by rw [monoX, monoAt_length, oneL_length]

theorem monomialCounts_any (A : Option Addr) (n c : Nat) (gs : List Int) (w : World) (h : RdS w w.heap.size A n c gs) (h1 : 1 ≤ n) (hn : n ≤ 1000000) (hg : ∀ g ∈ gs, 0 ≤ g ∧ g ≤ 2000000000000) :
    Calls Try.prog 63 #[.slice A n c] w (RetO n (monoX gs) w) := by
  obtain ⟨i0, hi, hz0, hz1, hz2⟩ := info_parts Try.info_i64
  have Hl := Lib.hid h.len
  have H := Lib.hid h; clear h
  have HG := Lib.hid hg; clear hg
  obtain ⟨R, hR⟩ : ∃ R, R = monoX gs := ⟨_, rfl⟩
  rw [← hR]
  have HR : Hid (monoAt n gs 0 (oneL n) = R) := Lib.hid (by rw [hR, monoX, Hl.out])
  clear hR
  obtain ⟨B, hB⟩ : ∃ B, B = w.heap.size := ⟨_, rfl⟩
  have hBge : B ≤ w.heap.size := by omega
  have HBe := Lib.hid hB; clear hB
  go_enter Try.func63, Try.ntmps63
  go_wp2_with (at_make; refine wpList_make_full _ rfl _ _ 22 rfl B 2 i0 (.int .i64 0) 1 Try.underlying22 hi hz0 hz1 .i64 .i64 _ _ n rfl rfl rfl rfl ?b2 ?b3 hBge ?_)
  case b2 => rw [hz2]; omega
  case b3 => unfold maxLen; omega
  intro w1 hown hgr
  have HB1 : Below B w w1 := (Below.refl _ _).grown hgr hBge (by simp)
  obtain ⟨g, x, hg, hBg, _, _, hc, hf, hset⟩ := (made_own hown).at_ (show 0 < n by omega)
  have HO := Lib.hid (hset 1).1
  have HB := Lib.hid (HB1.setCell (p := ⟨g, 0, none⟩) hBg (.int .i64 1))
  rw [hg] at hown ⊢
  clear hown hgr hset hg hBge hi hz0 hz1 hz2 i0 HB1
  go_wp2_with fail
  clear hc hf
  go_loopw [14] (fun r wr => ∃ (k : Nat) (xs : List Int), k ≤ n ∧ r = .int .i64 k ∧ OwnS wr B (some ⟨g, 0, none⟩) n n xs ∧ Below B w wr ∧ Hid (monoAt n (gs.drop k) k xs = R)) (fun r _ => n - (intOf r).toNat)
  case atStart => exact ⟨0, _, by omega, rfl, HO.out, HB.out, HR⟩
  case round =>
    clear HO HB
    obtain ⟨k, xs, hk, rfl, HO, HB, HC⟩ := hrel
    have HO1 := Lib.hid HO; clear HO
    have HB1 := Lib.hid HB; clear HB
    by_cases hlt : k < n
    · obtain ⟨ad, m, rfl, _, hm, hcm⟩ := (H.out.below (HB1.out.mono (by have := HBe.out; omega))).at_ hlt
      obtain ⟨hm0, hm1⟩ := HG.out m (mem_of hm)
      have HC2 : Hid (monoAt n (gs.drop (k + 1)) (k + 1) (timesIt n k m.toNat xs) = R) := Lib.hid (by
        have h1 := HC.out
        obtain ⟨hk', hmk⟩ := List.getElem?_eq_some_iff.1 hm.out
        rw [List.drop_eq_getElem_cons hk', hmk, monoAt] at h1
        exact h1)
      go_wp2_with fail
      clear hcm
      obtain ⟨w0, hw0⟩ : ∃ w0 : World, w0 = wr := ⟨_, rfl⟩
      clear hw0
      go_loopw [20] (fun r wr => ∃ (j : Nat) (ys : List Int), (j : Int) ≤ m ∧ r = .int .i64 j ∧ OwnS wr B (some ⟨g, 0, none⟩) n n ys ∧ Below B w wr ∧ Hid (timesIt n k (m.toNat - j) ys = timesIt n k m.toNat xs)) (fun r _ => m.toNat - (intOf r).toNat)
      case atStart => exact ⟨0, xs, by omega, rfl, HO1.out, HB1.out, Lib.hid rfl⟩
      case round =>
        clear HO1 HB1
        obtain ⟨j, ys, hj, rfl, HO, HB, HT⟩ := hrel
        have HO1 := Lib.hid HO; clear HO
        have HB1 := Lib.hid HB; clear HB
        by_cases hjm : (j : Int) < m
        · go_wp2_with fail
          obtain ⟨w00, hw00⟩ : ∃ w0 : World, w0 = wr := ⟨_, rfl⟩
          clear hw00
          go_loopw [6] (fun r wr => ∃ (i : Nat) (zs : List Int), k ≤ i ∧ i ≤ n ∧ r = .int .i64 i ∧ OwnS wr B (some ⟨g, 0, none⟩) n n zs ∧ Below B w wr ∧ Hid (addFrom k n zs i = addFrom k n ys k)) (fun r _ => n - (intOf r).toNat)
          case atStart => exact ⟨k, ys, by omega, by omega, rfl, HO1.out, HB1.out, Lib.hid rfl⟩
          case round =>
            clear HO1 HB1
            obtain ⟨i, zs, hki, hin, rfl, HO, HB, HA⟩ := hrel
            by_cases hlti : i < n
            · obtain ⟨g', x, y, hg', hBg', hcx, hcy, hfx, hx, hy, hset⟩ := HO.two (p := k) hlti
              obtain rfl : g = g' := by simpa using hg'
              have HO2 := hset (wrap64 (x + y))
              rw [← addP_of hx hy] at HO2
              have HA2 := Lib.hid ((addFrom_step hlti).symm.trans HA.out)
              clear hset HO HA hg'
              go_wp2_with fail
              go_region
              go_wp2_with fail
              go_roundw
              case rel => exact ⟨i + 1, _, by omega, by omega, by go_num, HO2.drew, (HB.setCell hBg' _).drew, HA2⟩
              case measure => simp [intOf]; omega
            · have HO2 := Lib.hid HO; clear HO
              have HB2 := Lib.hid HB; clear HB
              have h3 := HA.out
              rw [addFrom_end (by omega)] at h3
              have H3 := Lib.hid h3; clear h3
              go_wp2_with fail
              go_roundw
              case rel => exact ⟨j + 1, zs, by omega, by go_num, HO2.out, HB2.out, Lib.hid (by rw [H3.out]; have h4 := HT.out; rw [show m.toNat - j = (m.toNat - (j + 1)) + 1 from by omega, timesIt] at h4; exact h4)⟩
              case measure => simp [intOf]; omega
        · have h3 := HT.out
          rw [show m.toNat - j = 0 from by omega, timesIt] at h3
          have H3 := Lib.hid h3; clear h3
          go_wp2_with fail
          go_roundw
          case rel => exact ⟨k + 1, ys, by omega, by go_num, HO1.out, HB1.out, Lib.hid (by rw [H3.out]; exact HC2.out)⟩
          case measure => simp [intOf]; omega
    · obtain rfl : k = n := by omega
      have h3 := HC.out
      rw [List.drop_of_length_le (by rw [Hl.out]; omega), monoAt] at h3
      have H3 := Lib.hid h3; clear h3
      go_wp2_with fail
      go_ret
      exact ⟨_, _, rfl, by rw [← H3.out, ← HBe.out]; exact HO1.out, HBe.out ▸ HB1.out⟩
end Go.Proofs.Ytgoefodemjelaaa
