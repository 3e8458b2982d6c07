/- l17Counts; FreeUnstableCounts of the reference. -/
import Derived.Test.YtgoefodemjelaaaFreeR
namespace Go.Proofs.Ytgoefodemjelaaa
open Go.RowKit
set_option linter.unusedVariables false

def l17L (ex : Int) (d : Nat) : List Int := (List.range (d + 1)).map (fun k => (cntW ex k : Int))
theorem l17L_length (ex : Int) (d : Nat) : (l17L ex d).length = d + 1 := by simp [l17L]
theorem l17L_take (ex : Int) {d q : Nat} (h : q ≤ d) : (l17L ex d).take (q + 1) = (l17L ex d).take q ++ [(cntW ex q : Int)] := by
  rw [List.take_add_one]
  congr 1
  simp only [l17L, List.getElem?_map, List.getElem?_range (show q < d + 1 by omega), Option.map_some]
  rfl
theorem l17L_get (ex : Int) {d q : Nat} {x : Int} (h : q ≤ d) (hx : Hid ((l17L ex d)[q]? = some x)) : x = (cntW ex q : Int) := by
  have h1 := hx.out
  simp only [l17L, List.getElem?_map, List.getElem?_range (show q < d + 1 by omega), Option.map_some] at h1
  injection h1 with h1; exact h1.symm
theorem freeL_take (e : Nat) (ex : Int) {d q : Nat} (h : q ≤ d) : (freeL e ex d).take (q + 1) = (freeL e ex d).take q ++ [if e ≤ q then (cntW ex (q - e) : Int) else 0] := by
  rw [List.take_add_one]
  congr 1
  simp only [freeL, List.getElem?_map, List.getElem?_range (show q < d + 1 by omega), Option.map_some]
  rfl

theorem l17Counts_any (d : Nat) (ex : Int) (w : World) (hd : d ≤ 40) :
    Calls Try.prog 67 #[.int .i64 ex, .int .i64 d] w (RetO (d + 1) (l17L ex d) w) := by
  obtain ⟨R, hR⟩ : ∃ R, R = l17L ex d := ⟨_, rfl⟩
  rw [← hR]
  have HR := Lib.hid hR
  clear hR
  obtain ⟨B, hB⟩ : ∃ B, B = w.heap.size := ⟨_, rfl⟩
  have hBge : B ≤ w.heap.size := by omega
  have HBe := Lib.hid hB; clear hB
  have HO := Lib.hid (own_empty w B hBge)
  have HB := Lib.hid ((Below.refl B w).alloc hBge (.cells #[] 2))
  go_enter Try.func67, Try.ntmps67
  go_wp2_with fail
  go_loopw [5, 6] (fun o r wr => ∃ (q c : Nat) (A : Option Addr), q ≤ d + 1 ∧ r = .int .i64 q ∧ o = .slice A q c ∧ OwnS wr B A q c (R.take q) ∧ Below B w wr) (fun _ r _ => 100 - (intOf r).toNat)
  case atStart => exact ⟨0, _, _, by omega, by go_num, rfl, by simpa using HO.out, HB.out⟩
  case round =>
    clear HO HB
    obtain ⟨q, c0, A0, hq41, rfl, rfl, HO, HB⟩ := hrel
    have HO1 := Lib.hid HO; clear HO
    have HB1 := Lib.hid HB; clear HB
    by_cases hqd : q ≤ d
    · obtain ⟨ws, hws⟩ : ∃ ws, ws = aw 40 q q := ⟨_, rfl⟩
      have HW := Lib.hid hws
      have HCN := Lib.hid (show (ws.filter (excB ex)).length = cntW ex q by rw [hws]; rfl)
      obtain ⟨ln, hln⟩ : ∃ ln, ln = ws.length := ⟨_, rfl⟩
      have HLn := Lib.hid hln
      have hlb : ln ≤ 1099511627776 := by rw [hln, hws]; exact aw40_le q (by omega)
      have HA := Lib.hid (fun w => basW q _ w (by omega) rfl)
      rw [← hws, ← hln] at HA
      clear hws hln
      go_wp2_with fail
      refine (HA.out wr).mono ?_
      rintro e1 w2 ⟨A1, c1, rfl, ho1, hb1⟩
      have HL := Lib.hid ho1.rd
      have HO2 := Lib.hid (HO1.out.below hb1)
      have HB2 := Lib.hid (HB1.out.trans (hb1.mono (by have := HB1.out.size; have := HBe.out; omega)))
      clear ho1 hb1 HO1 HB1
      go_wp2_with fail
      go_loopw [8, 9] (fun t r wi => ∃ (j c k : Nat), j ≤ ln ∧ r = .int .i64 j ∧ t = .int .i64 c ∧ c ≤ 1099511627776 ∧ wi = w2.drewN k ∧
        Hid (c = ((ws.take j).filter (excB ex)).length)) (fun _ r _ => ln - (intOf r).toNat)
      case atStart => exact ⟨0, 0, 0, by omega, by go_num, by go_num, by omega, rfl, Lib.hid (by simp)⟩
      case round =>
        obtain ⟨j, c, k, hj, rfl, rfl, hcb, rfl, HC⟩ := hrel
        by_cases hjl : j < ln
        · obtain ⟨ad, A', n', c', r, rfl, _, hr, hc, hor⟩ := (HL.out.drewN k).at_ hjl
          have hn' : n' ≤ 1000000000000 := by
            have := hor.len
            have := aw_len40 (q := q) (j := j) (r := r) (by omega) (by rw [← HW.out]; exact hr)
            omega
          have HE := Lib.hid (l03Excess_any A' n' c' _ r _ hor hn')
          have hcj : c ≤ j := by
            rw [HC.out]
            have := List.length_filter_le (excB ex) (ws.take j)
            rw [List.length_take] at this
            omega
          clear hor
          by_cases hex : excW r ≤ ex
          · have HC2 : Hid (c + 1 = ((ws.take (j + 1)).filter (excB ex)).length) := Lib.hid (by rw [filter_take_succ hr, ← HC.out, if_pos (by simpa [excB] using hex)])
            go_wp2_with fail
            refine HE.out.mono ?_
            rintro e2 w3 ⟨rfl, k3, rfl⟩
            go_wp2_with fail
            go_roundw
            case rel => exact ⟨j + 1, c + 1, k + k3, by omega, by go_num, by go_num, by omega, rfl, HC2⟩
            case measure => simp [intOf]; omega
          · have HC2 : Hid (c = ((ws.take (j + 1)).filter (excB ex)).length) := Lib.hid (by rw [filter_take_succ hr, ← HC.out, if_neg (by simpa [excB] using hex)]; rfl)
            go_wp2_with fail
            refine HE.out.mono ?_
            rintro e2 w3 ⟨rfl, k3, rfl⟩
            go_wp2_with fail
            go_roundw
            case rel => exact ⟨j + 1, c, k + k3, by omega, by go_num, rfl, by omega, rfl, HC2⟩
            case measure => simp [intOf]; omega
        · have HX : Hid (c = cntW ex q) := Lib.hid (by
            rw [HC.out, List.take_of_length_le (by rw [← HLn.out]; omega), HCN.out])
          have HBs : B ≤ w2.heap.size := by have := HB2.out.size; have := HBe.out; omega
          have HO3 := Lib.hid ((HO2.out.drewN k).alloc (.cells #[.int .i64 (c : Int)] 2))
          have HB3 := Lib.hid ((below_drewN HB2.out k).alloc HBs (.cells #[.int .i64 (c : Int)] 2))
          have HR1 := Lib.hid (rd_new (w2.drewN k) (c : Int) 2)
          have HZ := Lib.hid (show B ≤ ((w2.drewN k).alloc (.cells #[.int .i64 (c : Int)] 2)).heap.size by have := (Below.refl B (w2.drewN k)).alloc HBs (.cells #[.int .i64 (c : Int)] 2) ; exact Nat.le_trans HBs this.size)
          clear HO2 HB2 HBs
          go_wp2_with (at_builtin; refine wpList_appI rfl (.tmp 33) (.tmp 35) rfl rfl rfl HO3.out HR1.out (by omega) HZ.out ?_)
          intro A2 c2 w4 ho hg _
          have HO4 := Lib.hid (show OwnS w4 B A2 (q + 1) c2 (R.take (q + 1)) by rw [HR.out, l17L_take ex hqd, ← HR.out, ← HX.out]; exact ho)
          have HB4 := Lib.hid (HB3.out.grown hg HZ.out HO3.out.row)
          clear ho hg
          go_wp2_with fail
          go_roundw
          case rel => exact ⟨q + 1, _, _, by omega, by go_num, rfl, HO4.out, HB4.out⟩
          case measure => simp [intOf]; omega
    · go_wp2_with fail
      go_ret
      have h1 := HO1.out
      obtain rfl : q = d + 1 := by omega
      rw [List.take_of_length_le (by rw [HR.out, l17L_length]; omega)] at h1
      exact ⟨_, _, rfl, HBe.out ▸ h1, HBe.out ▸ HB1.out⟩

theorem sFreeUnstableCounts_yes (n d : Nat) (w : World) (h : okR 0 20 n d = true) : Calls Try.prog 40 #[.int .i64 n, .int .i64 d] w (RetSC (d + 1) (freeL n n d) 0 w) := by
  have hp : inB n 0 20 = true ∧ inB d 0 40 = true := by simpa [okR] using h
  have hk := inB_iff.1 hp.1
  have hd := inB_iff.1 hp.2
  have Hk := Lib.hid hp.1
  have Hd := Lib.hid hp.2
  obtain ⟨R, hR⟩ : ∃ R, R = freeL n n d := ⟨_, rfl⟩
  rw [← hR]
  have HR := Lib.hid hR
  have hx : ∃ m : Nat, m = d - n := ⟨_, rfl⟩
  obtain ⟨m, hm⟩ := hx
  obtain ⟨B, hB⟩ : ∃ B, B = w.heap.size := ⟨_, rfl⟩
  have HBe := Lib.hid hB
  obtain ⟨L, hL⟩ : ∃ L, L = l17L n m := ⟨_, rfl⟩
  have HLL := Lib.hid hL
  have HC : Hid (∀ (x : Int) (w : World), x = m → Calls Try.prog 67 #[.int .i64 n, .int .i64 x] w (RetO (m + 1) L w)) := Lib.hid (by
    intro x w hx; subst hx; rw [hL]; exact l17Counts_any m n w (by omega))
  clear hp h hR hB hL
  go_enter Try.func40, Try.ntmps40
  go_wp2_with fail
  refine (l01In_any _ _ _ _).mono ?_
  rintro e w' ⟨rfl, rfl⟩
  rw [Hk.out]
  go_wp2_with fail
  refine (l01In_any _ _ _ _).mono ?_
  rintro e w' ⟨rfl, rfl⟩
  rw [Hd.out]
  by_cases hnd : n < d
  all_goals
    go_wp2_with fail
    refine (HC.out _ _ (by omega)).mono ?_
    rintro e w1 ⟨A1, c1, rfl, ho1, hb1⟩
    have HL1 := Lib.hid ho1.rd
    have HB1 := Lib.hid hb1
    obtain ⟨C, hC⟩ : ∃ C, C = w1.heap.size := ⟨_, rfl⟩
    rw [← hC] at HL1
    have hCge : C ≤ w1.heap.size := by omega
    have HBC := Lib.hid (show w'.heap.size ≤ C by rw [hC]; exact hb1.size)
    have HO := Lib.hid (own_empty w1 C hCge)
    have HB2 := Lib.hid ((Below.refl C w1).alloc hCge (.cells #[] 2))
    clear ho1 hb1 hC
    go_wp2_with fail
    go_loopw [7, 8] (fun o r wr => ∃ (q c : Nat) (A : Option Addr), q ≤ d + 1 ∧ r = .int .i64 q ∧ o = .slice A q c ∧ OwnS wr C A q c (R.take q) ∧ Below C w1 wr) (fun _ r _ => 100 - (intOf r).toNat)
    case atStart => exact ⟨0, _, _, by omega, by go_num, rfl, by simpa using HO.out, HB2.out⟩
    case round =>
      clear HO HB2
      obtain ⟨q, c0, A0, hq41, rfl, rfl, HO, HB⟩ := hrel
      have HO1 := Lib.hid HO; clear HO
      have HB2 := Lib.hid HB; clear HB
      have HBs : C ≤ wr.heap.size := Nat.le_trans hCge HB2.out.size
      by_cases hqd : q ≤ d
      · by_cases hqn : q < n
        · have HO3 := Lib.hid (HO1.out.alloc (.cells #[.int .i64 0] 2))
          have HB3 := Lib.hid (HB2.out.alloc HBs (.cells #[.int .i64 0] 2))
          have HR1 := Lib.hid (rd_new wr 0 2)
          have HZ := Lib.hid (show C ≤ (wr.alloc (.cells #[.int .i64 0] 2)).heap.size from Nat.le_trans HBs ((Below.refl C wr).alloc HBs _).size)
          clear HO1 HB2 HBs
          go_wp2_with (at_builtin; refine wpList_appI rfl (.tmp 32) (.tmp 33) rfl rfl rfl HO3.out HR1.out (by omega) HZ.out ?_)
          intro A2 c2 w4 ho hg _
          have HO4 := Lib.hid (show OwnS w4 C A2 (q + 1) c2 (R.take (q + 1)) by rw [HR.out, freeL_take n n hqd, ← HR.out, if_neg (by omega)]; exact ho)
          have HB4 := Lib.hid (HB3.out.grown hg HZ.out HO3.out.row)
          clear ho hg
          go_wp2_with fail
          go_roundw
          case rel => exact ⟨q + 1, _, _, by omega, by go_num, rfl, HO4.out, HB4.out⟩
          case measure => simp [intOf]; omega
        · obtain ⟨k, rfl⟩ : ∃ k, q = n + k := ⟨q - n, by omega⟩
          obtain ⟨ad, x, rfl, _, hx, hc⟩ := (HL1.out.below HB2.out).at_ (k := k) (by omega)
          have hxv : x = (cntW n k : Int) := l17L_get n (d := m) (by omega) (by rw [← HLL.out]; exact hx)
          have hxb : cntW n k ≤ 1099511627776 := cntW_le n k (by omega)
          have HXV := Lib.hid hxv
          have hxn : 0 ≤ x ∧ x ≤ 1099511627776 := by omega
          have HO3 := Lib.hid (HO1.out.alloc (.cells #[.int .i64 x] 2))
          have HB3 := Lib.hid (HB2.out.alloc HBs (.cells #[.int .i64 x] 2))
          have HR1 := Lib.hid (rd_new wr x 2)
          have HZ := Lib.hid (show C ≤ (wr.alloc (.cells #[.int .i64 x] 2)).heap.size from Nat.le_trans HBs ((Below.refl C wr).alloc HBs _).size)
          clear HO1 HB2 HBs hxv hxb
          go_wp2_with (at_builtin; refine wpList_appI rfl (.tmp 35) (.tmp 42) rfl rfl rfl HO3.out HR1.out (by omega) HZ.out ?_)
          intro A2 c2 w4 ho hg _
          have HO4 := Lib.hid (show OwnS w4 C A2 (n + k + 1) c2 (R.take (n + k + 1)) by rw [HR.out, freeL_take n n hqd, ← HR.out, if_pos (by omega), Nat.add_sub_cancel_left, ← HXV.out]; exact ho)
          have HB4 := Lib.hid (HB3.out.grown hg HZ.out HO3.out.row)
          clear ho hg
          go_wp2_with fail
          go_roundw
          case rel => exact ⟨n + k + 1, _, _, by omega, by go_num, rfl, HO4.out, HB4.out⟩
          case measure => simp [intOf]; omega
      · go_wp2_with fail
        go_ret2
        have h1 := HO1.out
        obtain rfl : q = d + 1 := by omega
        rw [List.take_of_length_le (by rw [HR.out, freeL_length]; omega)] at h1
        exact RetSC.mk (k' := 0) rfl rfl (h1.mono HBC.out) rfl (HB1.out.trans (HB2.out.mono HBC.out))
theorem FreeUnstableCounts_both (n d : Int) (_wk : (Lit.int .i64 n).wf = true) (_wd : (Lit.int .i64 d).wf = true) : ∃ (l : Nat) (xs : List Int) (c : Int), l ≤ 1000000 ∧
    (∀ w, Calls Try.prog 40 #[.int .i64 n, .int .i64 d] w (RetSC l xs c w)) ∧ (∀ w, Calls Try.prog 41 #[.int .i64 n, .int .i64 d] w (RetSC l xs c w)) := by
  cases h : okR 0 20 n d
  · exact ⟨0, [], 2, by omega, fun w => sFreeUnstableCounts_no n d w h, fun w => iFreeUnstableCounts_no n d w h⟩
  · have hp : inB n 0 20 = true ∧ inB d 0 40 = true := by simpa [okR] using h
    have hk := inB_iff.1 hp.1
    have hd := inB_iff.1 hp.2
    obtain ⟨n, rfl⟩ := Int.eq_ofNat_of_zero_le (show 0 ≤ n by omega)
    obtain ⟨d, rfl⟩ := Int.eq_ofNat_of_zero_le (show 0 ≤ d by omega)
    exact ⟨d + 1, freeL n n d, 0, by omega, fun w => sFreeUnstableCounts_yes n d w h, fun w => iFreeUnstableCounts_yes n d w h⟩
end Go.Proofs.Ytgoefodemjelaaa
