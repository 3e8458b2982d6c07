/- Copies of lists, one factor 1/(1 - t^p), sums of series; SumsOfSeries on both sides. -/
import Derived.Test.YtgoefodemjelaaaShift
import Derived.Test.YtgoefodemjelaaaApp
namespace Go.Proofs.Ytgoefodemjelaaa
open Go.RowKit
set_option linter.unusedVariables false

theorem l01Own_any (A : Option Addr) (n c : Nat) (xs : List Int) (w : World) (h : RdS w w.heap.size A n c xs) (hn : n ≤ 2000000) :
    Calls Try.prog 73 #[.slice A n c] w (RetO n xs w) := by
  have hb0 : Below w.heap.size w (w.alloc (.cells #[] 2)) := (Below.refl _ _).alloc (Nat.le_refl _) _
  have H := Lib.hid (h.below hb0); clear h
  have HO := Lib.hid (own_empty w w.heap.size (Nat.le_refl _))
  have HB := Lib.hid hb0; clear hb0
  go_enter Try.func73, Try.ntmps73
  go_wp2_with (at_builtin; refine wpList_appI rfl (.tmp 3) (.tmp 4) rfl rfl rfl HO.out H.out (by omega) (by simp) ?_)
  intro A' c' w' ho hg _
  have HO' := Lib.hid ho; clear ho
  have HB' := Lib.hid (HB.out.grown hg HB.out.size HO.out.row); clear hg
  go_wp2_with fail
  go_ret
  exact ⟨_, _, rfl, HO'.out, HB'.out⟩

theorem l18With_any (A : Option Addr) (n c : Nat) (xs : List Int) (p : Nat) (w : World) (h : RdS w w.heap.size A n c xs) (hn : n ≤ 1000000) (hp1 : 1 ≤ p) (hp2 : p ≤ 1000000) :
    Calls Try.prog 61 #[.slice A n c, .int .i64 p] w (RetO n (addFrom p n xs p) w) := by
  have H := Lib.hid h; clear h
  go_enter Try.func61, Try.ntmps61
  go_wp2_with fail
  refine (l01Own_any A n c xs _ H.out (by omega)).mono ?_
  rintro e w1 ⟨A1, c1, rfl, ho, hb⟩
  have HO := Lib.hid ho; clear ho
  have HB := Lib.hid hb; clear hb
  obtain ⟨B, hB⟩ : ∃ B, B = w.heap.size := ⟨_, rfl⟩
  have HBw := Lib.hid hB
  rw [← hB] at HO HB
  clear hB
  go_wp2_with fail
  go_loopw [6] (fun m wr => ∃ (k : Nat) (ys : List Int), p ≤ k ∧ k ≤ p + n ∧ m = .int .i64 k ∧ OwnS wr B A1 n c1 ys ∧ Below B w wr ∧ Hid (addFrom p n ys k = addFrom p n xs p)) (fun m _ => p + n - (intOf m).toNat)
  case atStart => exact ⟨p, xs, by omega, by omega, rfl, HO.out, HB.out, Lib.hid rfl⟩
  case round =>
    obtain ⟨k, ys, hqk, hkd, rfl, HO, HBe, HA⟩ := hrel
    by_cases hlt : k < n
    · obtain ⟨g, x, y, rfl, hBg, hcx, hcy, hfx, hx, hy, hset⟩ := HO.two (p := p) hlt
      have HO2 := hset (wrap64 (x + y))
      rw [← addP_of hx hy] at HO2
      have HA2 := Lib.hid ((addFrom_step hlt).symm.trans HA.out)
      clear hset HO HA
      go_wp2_with fail
      go_region
      go_wp2_with fail
      go_roundw
      case rel => exact ⟨k + 1, _, by omega, by omega, by go_num, HO2.drew, (HBe.setCell hBg _).drew, HA2⟩
      case measure => simp [intOf]; omega
    · go_wp2_with fail
      go_ret
      refine ⟨_, _, rfl, ?_, ?_⟩
      · rw [← HA.out, addFrom_end (by omega), ← HBw.out]; exact HO
      · rw [← HBw.out]; exact HBe

/-- sums from the beginning on -/
def psT (t : Int) (xs : List Int) : Int := xs.foldl (fun t x => wrap64 (t + x)) t
def ps (t : Int) : List Int → List Int
  | [] => []
  | x :: xs => wrap64 (t + x) :: ps (wrap64 (t + x)) xs
theorem ps_length (t : Int) (xs : List Int) : (ps t xs).length = xs.length := by
  induction xs generalizing t with
  | nil => rfl
  | cons x xs ih => simp [ps, ih]
theorem ps_snoc (t : Int) (xs : List Int) (x : Int) : ps t (xs ++ [x]) = ps t xs ++ [wrap64 (psT t xs + x)] := by
  induction xs generalizing t with
  | nil => rfl
  | cons y xs ih => simp [ps, psT, ih]
theorem psT_snoc (t : Int) (xs : List Int) (x : Int) : psT t (xs ++ [x]) = wrap64 (psT t xs + x) := by simp [psT]
theorem ps_addFrom {xs : List Int} {e : Nat} (he : xs.length = e) (m d : Nat) (hd : e - m = d) (hm : 1 ≤ m) : addFrom 1 e (ps 0 (xs.take m) ++ xs.drop m) m = ps 0 xs := by
  induction d generalizing m with
  | zero =>
    rw [addFrom_end (by omega), List.take_of_length_le (by omega), List.drop_of_length_le (by omega)]; simp
  | succ d ih =>
    have hlt : m < xs.length := by omega
    rw [addFrom_step (by omega), ← ih (m + 1) (by omega) (by omega)]
    congr 1
    have hl : (ps 0 (xs.take m)).length = m := by rw [ps_length, List.length_take]; omega
    have e1 : (ps 0 (xs.take m) ++ xs.drop m)[m]? = some xs[m] := by
      rw [List.getElem?_append_right (by omega), hl, Nat.sub_self, List.getElem?_drop]; simp
    have e2 : (ps 0 (xs.take m) ++ xs.drop m)[m - 1]? = some (psT 0 (xs.take m)) := by
      obtain ⟨k, rfl⟩ : ∃ k, m = k + 1 := ⟨m - 1, by omega⟩
      rw [List.getElem?_append_left (by omega), List.take_succ_eq_append_getElem (by omega), ps_snoc, psT_snoc, List.getElem?_append_right (by rw [ps_length, List.length_take]; omega), ps_length, List.length_take]
      rw [show k + 1 - 1 - min k xs.length = 0 by omega]; rfl
    rw [addP_of (Lib.hid e1) (Lib.hid e2), List.take_succ_eq_append_getElem hlt, ps_snoc, List.set_append_right _ _ (by omega), hl, Nat.sub_self, List.drop_eq_getElem_cons hlt, List.set_cons_zero, Int.add_comm]
    simp
theorem addFrom_one {xs : List Int} (h : ∀ x ∈ xs, -1000000000000 ≤ x ∧ x ≤ 1000000000000) (h1 : 1 ≤ xs.length) : addFrom 1 xs.length xs 1 = ps 0 xs := by
  rw [← ps_addFrom rfl 1 (xs.length - 1) rfl (Nat.le_refl _)]
  congr 1
  cases xs with
  | nil => simp at h1
  | cons x xs =>
    have := h x (List.mem_cons_self ..)
    simp [ps, wrap64]; omega

def sumsN (xs : List Int) : Nat := if seriesB xs = true ∧ (ps 0 xs).all smallB = true then xs.length else 0
def sumsL (xs : List Int) : List Int := if seriesB xs = true ∧ (ps 0 xs).all smallB = true then ps 0 xs else []
def sumsC (xs : List Int) : Int := if seriesB xs = true then if (ps 0 xs).all smallB = true then 0 else 3 else 1

theorem sSumsOfSeries (A : Option Addr) (n c : Nat) (xs : List Int) (w : World) (h : RdS w w.heap.size A n c xs) (hn : n ≤ 2000000) :
    Calls Try.prog 32 #[.slice A n c] w (RetSC (sumsN xs) (sumsL xs) (sumsC xs) w) := by
  have Hl := Lib.hid h.len
  have H := Lib.hid h; clear h
  cases hs : seriesB xs
  · have Hs := Lib.hid hs; clear hs
    go_enter Try.func32, Try.ntmps32
    go_wp2_with fail
    refine (l18Is_bb A n c xs _ H.out hn).mono ?_
    rintro e w1 ⟨rfl, hb1⟩
    rw [Hs.out]
    go_wp2_with fail
    go_ret2
    exact RetSC.mk (k' := 1) (by simp [sumsC, Hs.out]) (by simp [sumsN, Hs.out]) OwnS.nil (by simp [sumsL, Hs.out]) hb1
  · have Hs := Lib.hid hs
    have hlen := seriesB_len hs
    have HA := Lib.hid (addFrom_one (seriesB_small hs) hlen.1)
    clear hs
    have hn1 : 1 ≤ n := by rw [← Hl.out]; exact hlen.1
    have hn2 : n ≤ 301 := by rw [← Hl.out]; exact hlen.2
    clear hlen
    go_enter Try.func32, Try.ntmps32
    go_wp2_with fail
    refine (l18Is_bb A n c xs _ H.out hn).mono ?_
    rintro e w1 ⟨rfl, hb1⟩
    have HB1 := Lib.hid hb1; clear hb1
    rw [Hs.out]
    go_wp2_with fail
    refine (l18With_any A n c xs 1 _ ((H.out.below HB1.out).mono HB1.out.size) (by omega) (by omega) (by omega)).mono ?_
    rintro e w2 ⟨A2, c2, rfl, ho, hb⟩
    have ho' := ho
    rw [show addFrom 1 n xs 1 = ps 0 xs from by rw [← HA.out, Hl.out]] at ho'
    have HO := Lib.hid ho'; clear ho ho'
    have HB2 := Lib.hid (HB1.out.trans (hb.mono HB1.out.size))
    have HBw := Lib.hid HB1.out.size; clear hb
    go_wp2_with fail
    refine (l18Fit_any A2 n c2 _ _ HO.out.rd hn1 hn2).mono ?_
    rintro e w3 ⟨⟨hp, rfl⟩ | ⟨hp, rfl⟩, hb3⟩
    · have HO3 := Lib.hid ((HO.out.below hb3).mono HBw.out)
      have HB3 := Lib.hid (HB2.out.trans (hb3.mono HB2.out.size)); clear hb3
      go_wp2_with fail
      go_ret2
      exact RetSC.mk (k' := 0) (by simp only [sumsC, Hs.out, hp.out, if_true]) (by simp only [sumsN, Hs.out, hp.out, and_self, if_true, Hl.out]) HO3.out (by simp only [sumsL, Hs.out, hp.out, and_self, if_true]) HB3.out
    · have HB3 := Lib.hid (HB2.out.trans (hb3.mono HB2.out.size)); clear hb3
      go_wp2_with fail
      go_ret2
      exact RetSC.mk (k' := 3) (by simp only [sumsC, Hs.out, hp.out]; rfl) (by simp only [sumsN, Hs.out, hp.out]; rfl) OwnS.nil (by simp only [sumsL, Hs.out, hp.out]; rfl) HB3.out

theorem iSumsOfSeries (A : Option Addr) (n c : Nat) (xs : List Int) (w : World) (h : RdS w w.heap.size A n c xs) (hn : n ≤ 2000000) :
    Calls Try.prog 33 #[.slice A n c] w (RetSC (sumsN xs) (sumsL xs) (sumsC xs) w) := by
  have Hl := Lib.hid h.len
  have H := Lib.hid h; clear h
  cases hs : seriesB xs
  · have Hs := Lib.hid hs; clear hs
    go_enter Try.func33, Try.ntmps33
    go_wp2_with fail
    refine (isSeries_any A n c xs _ H.out hn).mono ?_
    rintro e w1 ⟨rfl, hb1⟩
    rw [Hs.out]
    go_wp2_with fail
    go_ret2
    exact RetSC.mk (k' := 1) (by simp [sumsC, Hs.out]) (by simp [sumsN, Hs.out]) OwnS.nil (by simp [sumsL, Hs.out]) hb1
  · have Hs := Lib.hid hs
    have hlen := seriesB_len hs
    clear hs
    have hn1 : 1 ≤ n := by rw [← Hl.out]; exact hlen.1
    have hn2 : n ≤ 301 := by rw [← Hl.out]; exact hlen.2
    clear hlen
    go_enter Try.func33, Try.ntmps33
    go_wp2_with fail
    refine (isSeries_any A n c xs _ H.out hn).mono ?_
    rintro e w1 ⟨rfl, hb1⟩
    have HB1 := Lib.hid hb1; clear hb1
    rw [Hs.out]
    obtain ⟨B, hB⟩ : ∃ B, B = w1.heap.size := ⟨_, rfl⟩
    have hBge : B ≤ w1.heap.size := by omega
    have HBw := Lib.hid (show w.heap.size ≤ B by have := HB1.out.size; omega)
    clear hB
    have HO := Lib.hid (own_empty w1 B hBge)
    have HB2 := Lib.hid ((Below.refl B w1).alloc hBge (.cells #[] 2))
    go_wp2_with fail
    go_loopw [4, 5, 14] (fun o t i wr => ∃ (k c : Nat) (A : Option Addr), k ≤ n ∧ i = .int .i64 k ∧ t = .int .i64 (psT 0 (xs.take k)) ∧ o = .slice A k c ∧ OwnS wr B A k c (ps 0 (xs.take k)) ∧ Below B w1 wr) (fun _ _ i _ => n - (intOf i).toNat)
    case atStart => exact ⟨0, _, _, Nat.zero_le _, rfl, rfl, rfl, HO.out, HB2.out⟩
    case round =>
      clear HO
      obtain ⟨k, c', A', hk, rfl, rfl, rfl, HO, HB⟩ := hrel
      by_cases hlt : k < n
      · obtain ⟨ad, x, rfl, _, hx, hc⟩ := ((H.out.below HB1.out).below (HB.mono HBw.out)).at_ hlt
        obtain ⟨t, ht⟩ : ∃ t, t = psT 0 (xs.take k) := ⟨_, rfl⟩
        have HT := Lib.hid ht
        rw [← ht]
        clear ht
        have HBs := HB.size
        have HO1 := Lib.hid (HO.alloc (.cells #[.int .i64 (wrap64 (t + x))] 2))
        have HB1' := Lib.hid (HB.alloc (by omega) (.cells #[.int .i64 (wrap64 (t + x))] 2))
        have HR := Lib.hid (rd_new wr (wrap64 (t + x)) 2)
        clear HO
        go_wp2_with (at_builtin; refine wpList_appI rfl (.tmp 21) (.tmp 23) rfl rfl rfl HO1.out HR.out (by omega) (by simp; omega) ?_)
        intro A2 c2 w2 ho hg _
        have hx' : xs.take (k + 1) = xs.take k ++ [x] := take_succ_of hx
        have HO2 := Lib.hid (show OwnS w2 B A2 (k + 1) c2 (ps 0 (xs.take (k + 1))) by rw [hx', ps_snoc, ← HT.out]; exact ho)
        have HB3 := Lib.hid (HB1'.out.grown hg (by simp; omega) HO1.out.row)
        have HT2 := Lib.hid (show wrap64 (t + x) = psT 0 (xs.take (k + 1)) by rw [hx', psT_snoc, ← HT.out])
        clear ho hg hx'
        go_wp2_with fail
        go_roundw
        case rel => exact ⟨k + 1, _, _, by omega, by go_num, by rw [HT2.out], rfl, HO2.out, HB3.out⟩
        case measure => simp [intOf]; omega
      · obtain rfl : k = n := by omega
        rw [List.take_of_length_le (by rw [Hl.out]; omega)] at HO ⊢
        have HO1 := Lib.hid HO; clear HO
        have HB1' := Lib.hid HB; clear HB
        go_wp2_with fail
        refine (limited_any A' k c' _ _ HO1.out.rd (by omega)).mono ?_
        rintro e w3 ⟨⟨hp, rfl⟩ | ⟨hp, rfl⟩, hb3⟩
        · have HO3 := Lib.hid ((HO1.out.below hb3).mono HBw.out)
          have HB3 := Lib.hid (HB1.out.trans ((HB1'.out.trans (hb3.mono (Nat.le_trans hBge HB1'.out.size))).mono HBw.out)); clear hb3
          go_wp2_with fail
          go_ret2
          exact RetSC.mk (k' := 0) (by simp only [sumsC, Hs.out, hp.out, if_true]) (by simp only [sumsN, Hs.out, hp.out, and_self, if_true, Hl.out]) HO3.out (by simp only [sumsL, Hs.out, hp.out, and_self, if_true]) HB3.out
        · have HB3 := Lib.hid (HB1.out.trans ((HB1'.out.trans (hb3.mono (Nat.le_trans hBge HB1'.out.size))).mono HBw.out)); clear hb3
          go_wp2_with fail
          go_ret2
          exact RetSC.mk (k' := 3) (by simp only [sumsC, Hs.out, hp.out]; rfl) (by simp only [sumsN, Hs.out, hp.out]; rfl) OwnS.nil (by simp only [sumsL, Hs.out, hp.out]; rfl) HB3.out

theorem SumsOfSeries_both (n : Nat) (xs : List Int) (hl : xs.length = n) (hn : n ≤ 1048576) (_hw : ∀ x ∈ xs, (Lit.int .i64 x).wf = true) :
    ∃ (m : Nat) (ys : List Int) (code : Int), m ≤ 1100000 ∧ (∀ A c w, RdS w w.heap.size A n c xs → Calls Try.prog 32 #[.slice A n c] w (RetSC m ys code w)) ∧
    (∀ A c w, RdS w w.heap.size A n c xs → Calls Try.prog 33 #[.slice A n c] w (RetSC m ys code w)) :=
  ⟨sumsN xs, sumsL xs, sumsC xs, by unfold sumsN; split <;> omega, fun A c w h => sSumsOfSeries A n c xs w h (by omega), fun A c w h => iSumsOfSeries A n c xs w h (by omega)⟩
end Go.Proofs.Ytgoefodemjelaaa
