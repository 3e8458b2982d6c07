/- The order of lists of integers on both sides: slices.Compare, l01Less, rising, l01Ascending. -/
import Derived.Test.YtoodhbafleemjaaGreatLL
import Derived.Test.YtoodhbafleemjaaGreatOrd
import Derived.Test.YtoodhbafleemjaaGreatBase
import Derived.Test.YtoodhbafleemjaaGreatExc
namespace Go.Proofs.YtoodhbafleemjaaGreat
open Go.RowKit
set_option linter.unusedVariables false

theorem isNaN_any (x : Int) (w : World) : Calls Tryz.prog 142 #[.int .i64 x] w (RetP false w) := by
  go_enter Tryz.func142, Tryz.ntmps142
  go_wp2
  go_ret
  exact RetP.mk (by simp)
theorem cmpI_any (x y : Int) (w : World) : Calls Tryz.prog 133 #[.int .i64 x, .int .i64 y] w (RetI (cmpI x y) w) := by
  rcases Int.lt_trichotomy x y with h | h | h
  · go_enter Tryz.func133, Tryz.ntmps133
    go_wp2_with fail
    refine (isNaN_any _ _).mono ?_
    rintro e w' ⟨rfl, rfl⟩
    go_wp2_with fail
    refine (isNaN_any _ _).mono ?_
    rintro e w' ⟨rfl, rfl⟩
    go_wp2_with fail
    go_ret
    exact RetI.mk (y := -1) (by simp [cmpI, h])
  · subst h
    go_enter Tryz.func133, Tryz.ntmps133
    go_wp2_with fail
    refine (isNaN_any _ _).mono ?_
    rintro e w' ⟨rfl, rfl⟩
    go_wp2_with fail
    refine (isNaN_any _ _).mono ?_
    rintro e w' ⟨rfl, rfl⟩
    go_wp2_with fail
    go_ret
    exact RetI.mk (y := 0) (by simp [cmpI])
  · have h2 : ¬ x < y := by omega
    go_enter Tryz.func133, Tryz.ntmps133
    go_wp2_with fail
    refine (isNaN_any _ _).mono ?_
    rintro e w' ⟨rfl, rfl⟩
    go_wp2_with fail
    refine (isNaN_any _ _).mono ?_
    rintro e w' ⟨rfl, rfl⟩
    go_wp2_with fail
    go_ret
    exact RetI.mk (y := 1) (by simp [cmpI, h, h2])

theorem compare_any (A1 A2 : Option Addr) (c1 c2 n m B1 B2 : Nat) (xs ys : List Int) (w : World) (h1 : RdS w B1 A1 n c1 xs) (h2 : RdS w B2 A2 m c2 ys) (hn : n ≤ 1000000000000) (hm : m ≤ 1000000000000) :
    Calls Tryz.prog 110 #[.slice A1 n c1, .slice A2 m c2] w (RetI (cmpL xs ys) w) := by
  have Hl1 := Lib.hid h1.len
  have Hl2 := Lib.hid h2.len
  have H1 := Lib.hid h1; clear h1
  have H2 := Lib.hid h2; clear h2
  obtain ⟨R, hR⟩ : ∃ R, R = cmpL xs ys := ⟨_, rfl⟩
  have HR := Lib.hid hR
  rw [← hR]
  clear hR
  go_enter Tryz.func110, Tryz.ntmps110
  go_wp2_with fail
  go_loop [11] (fun i => ∃ k : Nat, k ≤ n ∧ k ≤ m ∧ i = .int .i64 k ∧ Hid (R = cmpL (xs.drop k) (ys.drop k))) (fun i => n - (intOf i).toNat)
  case atStart => exact ⟨0, Nat.zero_le _, Nat.zero_le _, rfl, HR⟩
  case round =>
    obtain ⟨k, hkn, hkm, rfl, HC⟩ := hrel
    by_cases hlt : k < n
    · obtain ⟨ad1, x, rfl, _, hx, hc1⟩ := H1.out.at_ hlt
      by_cases hlm : k < m
      · obtain ⟨ad2, y, rfl, _, hy, hc2⟩ := H2.out.at_ hlm
        go_wp2_with fail
        refine (cmpI_any _ _ _).mono ?_
        rintro e w' ⟨rfl, rfl⟩
        rcases Int.lt_trichotomy x y with h | h | h
        · have hv : cmpI x y = -1 := by simp [cmpI, h]
          rw [hv]
          go_wp2_with fail
          go_ret
          exact RetI.mk (y := -1) (by rw [HC.out, cmpL_lt hx hy h])
        · subst h
          have hv : cmpI x x = 0 := by simp [cmpI]
          rw [hv]
          go_wp2_with fail
          go_round
          case rel => exact ⟨k + 1, by omega, by omega, by go_num, Lib.hid (by rw [HC.out, cmpL_step hx hy])⟩
          case measure => simp [intOf]; omega
        · have hv : cmpI x y = 1 := by simp only [cmpI]; rw [if_neg (by omega), if_pos h]
          rw [hv]
          go_wp2_with fail
          go_ret
          exact RetI.mk (y := 1) (by rw [HC.out, cmpL_gt hx hy h])
      · go_wp2_with fail
        go_ret
        exact RetI.mk (y := 1) (by rw [HC.out, cmpL_end2 (by rw [Hl1.out]; omega) (by rw [Hl2.out]; omega)])
    · obtain rfl : k = n := by omega
      by_cases hnm : k < m
      · go_wp2_with fail
        go_ret
        exact RetI.mk (y := -1) (by rw [HC.out, cmpL_end1 (by rw [Hl1.out]; omega) (by rw [Hl2.out]; omega)])
      · go_wp2_with fail
        go_ret
        exact RetI.mk (y := 0) (by rw [HC.out, cmpL_end (by rw [Hl1.out]; omega) (by rw [Hl2.out]; omega)])

theorem compareq_any (A1 A2 : Option Addr) (c1 c2 n m B1 B2 : Nat) (xs ys : List Int) (w : World) (h1 : RdS w B1 A1 n c1 xs) (h2 : RdS w B2 A2 m c2 ys) (hn : n ≤ 1000000000000) (hm : m ≤ 1000000000000) :
    Calls Tryz.prog 110 #[.slice A1 n c1, .slice A2 m c2] w (RetIq (cmpL xs ys) w) :=
  (compare_any A1 A2 c1 c2 n m B1 B2 xs ys w h1 h2 hn hm).mono fun e w' h => ⟨h.1, 0, h.2⟩

theorem less_any (A1 A2 : Option Addr) (c1 c2 n m B1 B2 : Nat) (xs ys : List Int) (w : World) (h1 : RdS w B1 A1 n c1 xs) (h2 : RdS w B2 A2 m c2 ys) (hn : n ≤ 1000000000000) (hm : m ≤ 1000000000000) :
    Calls Tryz.prog 123 #[.slice A1 n c1, .slice A2 m c2] w (RetB (ltL xs ys) w) := by
  have Hl1 := Lib.hid h1.len
  have Hl2 := Lib.hid h2.len
  have H1 := Lib.hid h1; clear h1
  have H2 := Lib.hid h2; clear h2
  obtain ⟨R, hR⟩ : ∃ R, R = ltL xs ys := ⟨_, rfl⟩
  have HR := Lib.hid (show R = decide (cmpL (xs.drop 0) (ys.drop 0) < 0) from hR)
  rw [← hR]
  clear hR
  go_enter Tryz.func123, Tryz.ntmps123
  go_wp2_with fail
  go_loopw [5] (fun i wr => ∃ k : Nat, k ≤ n ∧ k ≤ m ∧ i = .int .i64 k ∧ Hid (R = decide (cmpL (xs.drop k) (ys.drop k) < 0)) ∧ ∃ q, wr = w.drewN q) (fun i _ => n - (intOf i).toNat)
  case atStart => exact ⟨0, Nat.zero_le _, Nat.zero_le _, rfl, HR, 0, rfl⟩
  case round =>
    obtain ⟨k, hkn, hkm, rfl, HC, q, rfl⟩ := hrel
    by_cases hlt : k < n
    · by_cases hlm : k < m
      · obtain ⟨ad1, x, rfl, _, hx, hc1⟩ := H1.out.at_ hlt
        obtain ⟨ad2, y, rfl, _, hy, hc2⟩ := H2.out.at_ hlm
        rcases Int.lt_trichotomy x y with h | h | h
        · have hne1 : (x == y) = false := by simp; omega
          have hne2 : (x != y) = true := by simp; omega
          go_wp2_with fail
          go_quiet (fail)
          go_wp2_with fail
          go_quiet (fail)
          go_wp2_with fail
          go_ret
          exact RetB.mk (b' := true) (by rw [HC.out, cmpL_lt hx hy h]; rfl) (by first | exact ⟨_, rfl⟩ | exact ⟨_, World.drewN_drewN _ _ _⟩ | (simp only [World.drewN_drewN]; exact ⟨_, rfl⟩))
        · subst h
          go_wp2_with fail
          go_quiet (fail)
          go_wp2_with fail
          go_roundw
          case rel => exact ⟨k + 1, by omega, by omega, by go_num, Lib.hid (by rw [HC.out, cmpL_step hx hy]), _, rfl⟩
          case measure => simp [intOf]; omega
        · have hne1 : (x == y) = false := by simp; omega
          have hne2 : (x != y) = true := by simp; omega
          have hnlt : ¬ x < y := by omega
          go_wp2_with fail
          go_quiet (fail)
          go_wp2_with fail
          go_quiet (fail)
          go_wp2_with fail
          go_ret
          exact RetB.mk (b' := decide (x < y)) (by rw [HC.out, cmpL_gt hx hy h, decide_eq_false (show ¬ x < y by omega)]; rfl) (by first | exact ⟨_, rfl⟩ | exact ⟨_, World.drewN_drewN _ _ _⟩ | (simp only [World.drewN_drewN]; exact ⟨_, rfl⟩))
      · have hmn : ¬ n < m := by omega
        go_wp2_with fail
        go_ret
        exact RetB.mk (b' := false) (by rw [HC.out, cmpL_end2 (by rw [Hl1.out]; omega) (by rw [Hl2.out]; omega)]; rfl) (by first | exact ⟨_, rfl⟩ | exact ⟨_, World.drewN_drewN _ _ _⟩ | (simp only [World.drewN_drewN]; exact ⟨_, rfl⟩))
    · obtain rfl : k = n := by omega
      by_cases hnm : k < m
      · go_wp2_with fail
        go_ret
        exact RetB.mk (b' := true) (by rw [HC.out, cmpL_end1 (by rw [Hl1.out]; omega) (by rw [Hl2.out]; omega)]; rfl) (by first | exact ⟨_, rfl⟩ | exact ⟨_, World.drewN_drewN _ _ _⟩ | (simp only [World.drewN_drewN]; exact ⟨_, rfl⟩))
      · go_wp2_with fail
        go_ret
        exact RetB.mk (b' := false) (by rw [HC.out, cmpL_end (by rw [Hl1.out]; omega) (by rw [Hl2.out]; omega)]; rfl) (by first | exact ⟨_, rfl⟩ | exact ⟨_, World.drewN_drewN _ _ _⟩ | (simp only [World.drewN_drewN]; exact ⟨_, rfl⟩))

theorem rising_any (A : Option Addr) (n c B : Nat) (xss : List (List Int)) (w : World) (h : RdL w B A n c xss) (hn : n ≤ 1000000000000) (ht : totalL xss ≤ 1000000000000) :
    Calls Tryz.prog 60 #[.slice A n c] w (RetB (risB xss) w) := by
  have Hl := Lib.hid h.len
  have H := Lib.hid h; clear h
  have HT := Lib.hid ht; clear ht
  obtain ⟨R, hR⟩ : ∃ R, R = risB xss := ⟨_, rfl⟩
  have HR := Lib.hid (show R = risB (xss.drop 0) from hR)
  rw [← hR]
  clear hR
  go_enter Tryz.func60, Tryz.ntmps60
  go_wp2_with fail
  go_loopw [3] (fun i wr => ∃ j : Nat, 1 ≤ j ∧ j ≤ n + 1 ∧ i = .int .i64 (j : Int) ∧ Hid (R = risB (xss.drop (j - 1))) ∧ ∃ q, wr = w.drewN q) (fun i _ => n + 1 - (intOf i).toNat)
  case atStart => exact ⟨1, Nat.le_refl _, by omega, rfl, HR, 0, rfl⟩
  case round =>
    obtain ⟨j, hj1, hjn, rfl, HC, q, rfl⟩ := hrel
    by_cases hlt : j < n
    · obtain ⟨ad, A3, n3, c3, x, rfl, _, hx, hc1, hr1⟩ := H.out.at_ (show j - 1 < n by omega)
      obtain ⟨ad', A4, n4, c4, y, had, _, hy, hc2, hr2⟩ := H.out.at_ hlt
      obtain rfl : ad = ad' := by simpa using had
      have hn3 : n3 ≤ 1000000000000 := by rw [← hr1.len]; exact Nat.le_trans (len_le_total hx) HT.out
      have hn4 : n4 ≤ 1000000000000 := by rw [← hr2.len]; exact Nat.le_trans (len_le_total hy) HT.out
      obtain ⟨k, hk⟩ : ∃ k, k = j - 1 := ⟨_, rfl⟩
      rw [← hk] at hc1 hx
      have HCk := Lib.hid (show R = risB (xss.drop k) by rw [HC.out, hk])
      have hy2 : Hid (xss[k + 1]? = some y) := Lib.hid (by rw [show k + 1 = j from by omega]; exact hy.out)
      have HJ := Lib.hid (show k + 1 = j by omega)
      have hwk : IntKind.i64.wrap ((j : Int) - 1) = (k : Int) := by rw [IntKind.wrap_i64]; omega
      have hkn0 : k < n := by omega
      clear hk
      have Hc := fun W : Nat => Lib.hid (compareq_any A3 A4 c3 c4 n3 n4 _ _ x y (w.drewN W) (hr1.drewN W) (hr2.drewN W) hn3 hn4)
      have hck := HCk.out
      rw [risB_step hx hy2] at hck
      have HK := Lib.hid hck
      clear hck had hr1 hr2
      cases hd : ltL x y
      · have hv : 0 ≤ cmpL x y := Int.not_lt.1 (of_decide_eq_false hd)
        have HK2 : Hid (R = false) := Lib.hid (by rw [HK.out, hd]; rfl)
        clear hd
        go_wp2_with fail
        go_quiet ((go_at_call 110; first | exact Calls.quiet_of ((Hc _).out) | exact quiet_add ((Hc _).out)))
        go_wp2_with fail
        go_ret
        exact RetB.mk (b' := false) HK2.out.symm (by first | exact ⟨_, rfl⟩ | exact ⟨_, World.drewN_drewN _ _ _⟩ | (simp only [World.drewN_drewN]; exact ⟨_, rfl⟩))
      · have hv : cmpL x y < 0 := of_decide_eq_true hd
        have HK2 : Hid (R = risB (xss.drop (k + 1))) := Lib.hid (by rw [HK.out, hd]; rfl)
        clear hd
        go_wp2_with fail
        go_quiet ((go_at_call 110; first | exact Calls.quiet_of ((Hc _).out) | exact quiet_add ((Hc _).out)))
        go_wp2_with fail
        go_roundw
        case rel => exact ⟨j + 1, by omega, by omega, by go_num, Lib.hid (by rw [HK2.out, HJ.out]; rfl), (by first | exact ⟨_, rfl⟩ | exact ⟨_, World.drewN_drewN _ _ _⟩ | (simp only [World.drewN_drewN]; exact ⟨_, rfl⟩))⟩
        case measure => simp [intOf]; omega
    · go_wp2_with fail
      go_ret
      exact RetB.mk (b' := true) (by rw [HC.out, risB_end (by rw [Hl.out]; omega)]) (by first | exact ⟨_, rfl⟩ | exact ⟨_, World.drewN_drewN _ _ _⟩ | (simp only [World.drewN_drewN]; exact ⟨_, rfl⟩))
theorem ascending_any (A : Option Addr) (n c B : Nat) (xss : List (List Int)) (w : World) (h : RdL w B A n c xss) (hn : n ≤ 1000000000000) (ht : totalL xss ≤ 1000000000000) :
    Calls Tryz.prog 112 #[.slice A n c] w (RetB (risB xss) w) := by
  have Hl := Lib.hid h.len
  have H := Lib.hid h; clear h
  have HT := Lib.hid ht; clear ht
  obtain ⟨R, hR⟩ : ∃ R, R = risB xss := ⟨_, rfl⟩
  have HR := Lib.hid (show R = risB (xss.drop 0) from hR)
  rw [← hR]
  clear hR
  go_enter Tryz.func112, Tryz.ntmps112
  go_wp2_with fail
  go_loopw [3] (fun i wr => ∃ j : Nat, 1 ≤ j ∧ j ≤ n + 1 ∧ i = .int .i64 (j : Int) ∧ Hid (R = risB (xss.drop (j - 1))) ∧ ∃ q, wr = w.drewN q) (fun i _ => n + 1 - (intOf i).toNat)
  case atStart => exact ⟨1, Nat.le_refl _, by omega, rfl, HR, 0, rfl⟩
  case round =>
    obtain ⟨j, hj1, hjn, rfl, HC, q, rfl⟩ := hrel
    by_cases hlt : j < n
    · obtain ⟨ad, A3, n3, c3, x, rfl, _, hx, hc1, hr1⟩ := H.out.at_ (show j - 1 < n by omega)
      obtain ⟨ad', A4, n4, c4, y, had, _, hy, hc2, hr2⟩ := H.out.at_ hlt
      obtain rfl : ad = ad' := by simpa using had
      have hn3 : n3 ≤ 1000000000000 := by rw [← hr1.len]; exact Nat.le_trans (len_le_total hx) HT.out
      have hn4 : n4 ≤ 1000000000000 := by rw [← hr2.len]; exact Nat.le_trans (len_le_total hy) HT.out
      obtain ⟨k, hk⟩ : ∃ k, k = j - 1 := ⟨_, rfl⟩
      rw [← hk] at hc1 hx
      have HCk := Lib.hid (show R = risB (xss.drop k) by rw [HC.out, hk])
      have hy2 : Hid (xss[k + 1]? = some y) := Lib.hid (by rw [show k + 1 = j from by omega]; exact hy.out)
      have HJ := Lib.hid (show k + 1 = j by omega)
      have hwk : IntKind.i64.wrap ((j : Int) - 1) = (k : Int) := by rw [IntKind.wrap_i64]; omega
      have hkn0 : k < n := by omega
      clear hk
      have Hc := fun W : Nat => Lib.hid (less_any A3 A4 c3 c4 n3 n4 _ _ x y (w.drewN W) (hr1.drewN W) (hr2.drewN W) hn3 hn4)
      have hck := HCk.out
      rw [risB_step hx hy2] at hck
      have HK := Lib.hid hck
      clear hck had hr1 hr2
      cases hd : ltL x y
      · have hv : ltL x y = false := hd
        have HK2 : Hid (R = false) := Lib.hid (by rw [HK.out, hd]; rfl)
        clear hd
        go_wp2_with fail
        go_quiet ((go_at_call 123; first | exact Calls.quiet_of ((Hc _).out) | exact quiet_add ((Hc _).out)))
        go_wp2_with fail
        go_ret
        exact RetB.mk (b' := false) HK2.out.symm (by first | exact ⟨_, rfl⟩ | exact ⟨_, World.drewN_drewN _ _ _⟩ | (simp only [World.drewN_drewN]; exact ⟨_, rfl⟩))
      · have hv : ltL x y = true := hd
        have HK2 : Hid (R = risB (xss.drop (k + 1))) := Lib.hid (by rw [HK.out, hd]; rfl)
        clear hd
        go_wp2_with fail
        go_quiet ((go_at_call 123; first | exact Calls.quiet_of ((Hc _).out) | exact quiet_add ((Hc _).out)))
        go_wp2_with fail
        go_roundw
        case rel => exact ⟨j + 1, by omega, by omega, by go_num, Lib.hid (by rw [HK2.out, HJ.out]; rfl), (by first | exact ⟨_, rfl⟩ | exact ⟨_, World.drewN_drewN _ _ _⟩ | (simp only [World.drewN_drewN]; exact ⟨_, rfl⟩))⟩
        case measure => simp [intOf]; omega
    · go_wp2_with fail
      go_ret
      exact RetB.mk (b' := true) (by rw [HC.out, risB_end (by rw [Hl.out]; omega)]) (by first | exact ⟨_, rfl⟩ | exact ⟨_, World.drewN_drewN _ _ _⟩ | (simp only [World.drewN_drewN]; exact ⟨_, rfl⟩))
end Go.Proofs.YtoodhbafleemjaaGreat
