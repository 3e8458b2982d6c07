/- Admissible words of squares: admissibleWords (program), l03Words (reference); excess. -/
import Derived.Test.YtgoefodemjelaaaWords
namespace Go.Proofs.Ytgoefodemjelaaa
open Go.RowKit
set_option linter.unusedVariables false

/-- the admissible words of degree d whose first number is at most m; f: at least d -/
def aw : Nat → Nat → Nat → List (List Int)
  | 0, d, _ => if d = 0 then [[]] else []
  | f + 1, d, m => if d = 0 then [[]] else (List.range (min d m)).flatMap (fun i => (aw f (d - (i + 1)) ((i + 1) / 2)).map (fun r => ((i + 1 : Nat) : Int) :: r))
theorem flatMap_range_pow (f : Nat → List (List Int)) (d k : Nat) (hk : k ≤ d) (h : ∀ i, i < k → (f i).length ≤ 2 ^ (d - (i + 1))) : ((List.range k).flatMap f).length + 2 ^ (d - k) ≤ 2 ^ d := by
  induction k with
  | zero => simp
  | succ k ih =>
    have h1 := ih (by omega) (fun i hi => h i (by omega))
    have h2 := h k (by omega)
    have h3 : 2 ^ (d - k) = 2 ^ (d - (k + 1)) + 2 ^ (d - (k + 1)) := by rw [show d - k = (d - (k + 1)) + 1 from by omega, Nat.pow_succ]; omega
    rw [List.range_succ, List.flatMap_append, List.length_append]
    have h4 : (List.flatMap f [k]).length = (f k).length := by simp
    omega
theorem aw_length (f d m : Nat) : (aw f d m).length ≤ 2 ^ d := by
  induction f generalizing d m with
  | zero => unfold aw; split <;> simp [Nat.one_le_two_pow]
  | succ f ih =>
    unfold aw
    split
    · simp [Nat.one_le_two_pow]
    · refine Nat.le_trans (Nat.le_add_right _ _) (flatMap_range_pow _ d (min d m) (Nat.min_le_left _ _) (fun i _ => ?_))
      rw [List.length_map]; exact ih _ _
theorem aw_each (f d m : Nat) : ∀ r ∈ aw f d m, r.length ≤ d := by
  induction f generalizing d m with
  | zero => intro r hr; unfold aw at hr; split at hr <;> simp_all
  | succ f ih =>
    intro r hr
    unfold aw at hr
    split at hr
    · simp at hr; subst hr; simp
    · rw [List.mem_flatMap] at hr
      obtain ⟨i, hi, hr⟩ := hr
      rw [List.mem_map] at hr
      obtain ⟨r', hr', rfl⟩ := hr
      have := ih _ _ r' hr'
      have hi' := List.mem_range.1 hi
      simp only [List.length_cons]
      omega

theorem admissibleWords_any (k : Nat) : ∀ (n m : Int) (w : World), n.toNat ≤ k → 0 ≤ n → n ≤ 40 → 0 ≤ m → m ≤ 100 →
    Calls Try.prog 76 #[.int .i64 n, .int .i64 m] w (RetL (aw k n.toNat m.toNat).length (aw k n.toNat m.toNat) w) := by
  have zero : ∀ (k : Nat) (m : Int) (w : World), Calls Try.prog 76 #[.int .i64 0, .int .i64 m] w (RetL (aw k (0 : Int).toNat m.toNat).length (aw k (0 : Int).toNat m.toNat) w) := by
    intro k m w
    have hl : aw k (0 : Int).toNat m.toNat = [[]] := by cases k <;> simp [aw]
    rw [hl]
    clear hl
    have HO := Lib.hid ((ownL_one (own_empty w w.heap.size (Nat.le_refl _)) (by simp)).mono (Nat.le_refl _) (Nat.le_succ _))
    have HB := Lib.hid (((Below.refl w.heap.size w).alloc (Nat.le_refl _) (.cells #[] 2)).alloc (by simp) (.cells #[.slice (some ⟨w.heap.size, 0, none⟩) 0 0] 22))
    go_enter Try.func76, Try.ntmps76
    go_wp2_with fail
    go_ret
    refine ⟨_, _, rfl, ?_, ?_⟩
    · have := HO.out; simpa using this
    · have := HB.out; simpa using this
  induction k with
  | zero =>
    intro n m w hk h0 h7 hm0 hm1
    obtain rfl : n = 0 := by omega
    exact zero 0 m w
  | succ k ih =>
    intro n m w hk hn0 hn1 hm0 hm1
    by_cases hnz : n = 0
    · subst hnz
      exact zero (k + 1) m w
    have IH := Lib.hid ih; clear ih zero
    have hs1 : (n == 0) = false := by simpa using hnz
    have hs2 : 1 ≤ n := by omega
    obtain ⟨B, hB⟩ : ∃ B, B = w.heap.size := ⟨_, rfl⟩
    have HBe := Lib.hid hB
    have hBle : B ≤ w.heap.size := by omega
    clear hB
    obtain ⟨F, hF⟩ : ∃ F : Nat → List (List Int), F = fun i => (aw k (n.toNat - (i + 1)) ((i + 1) / 2)).map (fun r => ((i + 1 : Nat) : Int) :: r) := ⟨_, rfl⟩
    have hlw : aw (k + 1) n.toNat m.toNat = (List.range (min n.toNat m.toNat)).flatMap F := by rw [hF, aw, if_neg (by omega)]
    obtain ⟨P, hP⟩ : ∃ P, P = 2 ^ n.toNat := ⟨_, rfl⟩
    have hP2 : P ≤ 1099511627776 := by rw [hP]; exact Nat.le_trans (Nat.pow_le_pow_right (by omega) (show n.toNat ≤ 40 by omega)) (by decide)
    have HFl : Hid (∀ i, i ≤ n.toNat → ((List.range i).flatMap F).length ≤ P) := Lib.hid (by
      intro i hi
      rw [hP]
      refine Nat.le_trans (Nat.le_add_right _ _) (flatMap_range_pow F n.toNat i hi (fun j _ => ?_))
      rw [hF]; simp only [List.length_map]; exact aw_length _ _ _)
    have HP := Lib.hid hP
    have HF := Lib.hid hF
    rw [hlw]
    obtain ⟨R, hR⟩ : ∃ R, R = (List.range (min n.toNat m.toNat)).flatMap F := ⟨_, rfl⟩
    rw [← hR]
    have HRR := Lib.hid hR
    obtain ⟨rl, hrl⟩ : ∃ rl, rl = R.length := ⟨_, rfl⟩
    rw [← hrl]
    have HRL := Lib.hid hrl
    clear hF hlw hR hrl hP
    have HO := Lib.hid (ownL_empty w B (w.heap.size + 1) hBle)
    have HB := Lib.hid ((Below.refl B w).alloc hBle (.cells #[] 22))
    go_enter Try.func76, Try.ntmps76
    go_wp2_with fail
    go_loopw [5, 6] (fun o r wr => ∃ (i l c : Nat) (A : Option Addr) (acc : List (List Int)), 1 ≤ i ∧ i ≤ n.toNat + 1 ∧ i ≤ m.toNat + 1 ∧ r = .int .i64 i ∧ o = .slice A l c ∧ Hid (acc = (List.range (i - 1)).flatMap F) ∧ OwnL wr B wr.heap.size A l c acc ∧ Below B w wr) (fun _ r _ => 41 - (intOf r).toNat)
    case atStart => exact ⟨1, 0, _, _, [], by omega, by omega, by omega, rfl, rfl, Lib.hid rfl, by simpa using HO.out, HB.out⟩
    case round =>
      clear HO HB
      obtain ⟨i, l, c, A, acc, hi1, hi2, hi3, rfl, rfl, HA, HO, HB⟩ := hrel
      have HO1 := Lib.hid HO; clear HO
      have HB1 := Lib.hid HB; clear HB
      have hl : l ≤ P := by rw [← HO1.out.len, HA.out]; exact HFl.out (i - 1) (by omega)
      by_cases hin : (i : Int) ≤ n ∧ (i : Int) ≤ m
      · obtain ⟨hin, him⟩ := hin
        by_cases hmn : m < n
        all_goals
          go_wp2_with fail
          refine (IH.out (n - i) (i / 2) _ (by omega) (by omega) (by omega) (by omega) (by omega)).mono ?_
          rintro e w1 ⟨A1, c1, rfl, ho1, hb1⟩
          obtain ⟨ws, hws⟩ : ∃ ws, ws = aw k (n - i).toNat ((i : Int) / 2).toNat := ⟨_, rfl⟩
          rw [← hws] at ho1 ⊢
          have hFi : F (i - 1) = ws.map (fun r => (i : Int) :: r) := by
            rw [HF.out, hws, show (n - (i : Int)).toNat = n.toNat - i from by omega, show ((i : Int) / 2).toNat = i / 2 from by omega]
            simp only [show i - 1 + 1 = i from by omega]
          have hwl : ws.length ≤ P := by
            rw [hws, HP.out]; exact Nat.le_trans (aw_length k _ _) (Nat.pow_le_pow_right (by omega) (by omega))
          have HFi := Lib.hid hFi
          have Hwe : Hid (∀ r ∈ ws, r.length ≤ 40) := Lib.hid (by rw [hws]; exact fun r hr => Nat.le_trans (aw_each k _ _ r hr) (by omega))
          clear hws hFi
          have hBr : B ≤ wr.heap.size := by have := HB1.out.size; omega
          have O1 := Lib.hid ((HO1.out.below hb1).mono (Nat.le_refl B) hb1.size)
          have N1 := Lib.hid (show ∀ g, Value.ownBlock (.slice A l c) = some g → Value.ownBlock (.slice A1 ws.length c1) ≠ some g from fun g hg hg' => by
            have h1 := HO1.out.lt g hg; have h2 := ho1.row g hg'; omega)
          have R1 := Lib.hid ho1
          have B1 := Lib.hid (HB1.out.trans (hb1.mono hBr)); clear ho1 hb1
          obtain ⟨ln, hln⟩ : ∃ ln, ln = ws.length := ⟨_, rfl⟩
          rw [← hln] at R1 N1 ⊢
          have Hln := Lib.hid hln
          have hln2 : ln ≤ P := by omega
          clear hln hwl
          obtain ⟨S0, hS0⟩ : ∃ S0, S0 = wr.heap.size := ⟨_, rfl⟩
          rw [← hS0] at R1
          clear hS0
          go_wp2_with fail
          go_loopw [5, 28] (fun o r wr => ∃ (j l' c' : Nat) (A' : Option Addr) (acc' : List (List Int)), j ≤ ln ∧ r = .int .i64 j ∧ o = .slice A' l' c' ∧ l' ≤ l + j ∧ Hid (acc' = acc ++ (ws.take j).map (fun r => (i : Int) :: r)) ∧
            OwnL wr B wr.heap.size A' l' c' acc' ∧ Below B w wr ∧ OwnL wr S0 w1.heap.size A1 ln c1 ws ∧ Hid (∀ g, Value.ownBlock (.slice A' l' c') = some g → Value.ownBlock (.slice A1 ln c1) ≠ some g) ∧ Hid (w1.heap.size ≤ wr.heap.size)) (fun _ r _ => ln - (intOf r).toNat)
          case atStart => exact ⟨0, l, c, A, acc, Nat.zero_le _, rfl, rfl, Nat.le_refl _, Lib.hid (by rw [List.take_zero, List.map_nil, List.append_nil]), O1.out, B1.out, R1.out, N1, Lib.hid (Nat.le_refl _)⟩
          case round =>
            clear HO1 HB1 O1 B1 R1 N1
            obtain ⟨j, l', c', A', acc', hj, rfl, rfl, hl', HA', HO, HB, HR, HN, HS⟩ := hrel
            have HO2 := Lib.hid HO; clear HO
            have HB2 := Lib.hid HB; clear HB
            have HR2 := Lib.hid HR; clear HR
            by_cases hlt : j < ln
            · obtain ⟨ad, A3, n3, c3, r, rfl, _, hr, hc, hrs⟩ := HR2.out.rd.at_ hlt
              have hb0 : Below wr.heap.size wr (wr.alloc (.cells #[.int .i64 i] 2)) := (Below.refl _ _).alloc (Nat.le_refl _) _
              have I1 := Lib.hid (own_one wr (i : Int) wr.heap.size (Nat.le_refl _))
              have I2 := Lib.hid (hrs.below hb0)
              have hBs : B ≤ wr.heap.size := by have := HB2.out.size; have := HBe.out; omega
              have hn3 : n3 ≤ 40 := by rw [← hrs.len]; exact Hwe.out r (List.mem_of_getElem? hr.out)
              clear hrs
              go_wp2_with (at_builtin; refine wpList_appI rfl (.tmp 34) (.tmp 35) rfl rfl rfl I1.out I2.out (by omega) (by simp) ?_)
              intro A4 c4 w4 ho4 hg4 _
              have hb4 : Below wr.heap.size wr w4 := hb0.grown hg4 (by simp) I1.out.row
              have I4 := Lib.hid ho4; clear ho4
              have hb5 : Below w4.heap.size w4 (w4.alloc (.cells #[.slice A4 (1 + n3) c4] 22)) := (Below.refl _ _).alloc (Nat.le_refl _) _
              have I5 := Lib.hid (I4.out.below hb5)
              have HO5 := Lib.hid ((HO2.out.below hb4).below hb5)
              have HR5 := Lib.hid ((HR2.out.below hb4).below hb5)
              have HB5 := Lib.hid ((HB2.out.trans (hb4.mono hBs)).trans (hb5.mono (Nat.le_trans hBs hb4.size)))
              have V5 := Lib.hid (rdV_new w4 (.slice A4 (1 + n3) c4) 22)
              have S5 := Lib.hid (show wr.heap.size ≤ (w4.alloc (.cells #[.slice A4 (1 + n3) c4] 22)).heap.size from Nat.le_trans hb4.size hb5.size)
              clear hb0 hb4 hb5 hg4
              go_wp2_with (at_builtin; refine wpList_appL rfl (.tmp 32) (.tmp 37) rfl rfl rfl HO5.out I5.out V5.out (by omega) hBs S5.out ?_)
              intro A6 c6 w6 ho6 hg6 hrow6
              have hj' : ws.take (j + 1) = ws.take j ++ [r] := by rw [List.take_add_one, hr.out]; rfl
              have HA6 := Lib.hid (show acc' ++ [[(i : Int)] ++ r] = acc ++ (ws.take (j + 1)).map (fun r => (i : Int) :: r) by rw [HA'.out, hj', List.map_append]; simp)
              have HR6 := Lib.hid (HR5.out.grownL hg6 HN.out HO5.out.kind)
              have HN6 := Lib.hid (ne_row hrow6 HN.out (fun g hg => by have := HR5.out.lt g hg; simpa using this))
              have HB6 := Lib.hid (HB5.out.grown hg6 (Nat.le_trans hBs S5.out) HO5.out.row)
              have HS6 := Lib.hid (Nat.le_trans HS.out (Nat.le_trans S5.out hg6.size))
              have HO6 := Lib.hid ho6; clear ho6 hg6 hrow6 hj'
              go_wp2_with fail
              go_roundw
              case rel => exact ⟨j + 1, l' + 1, _, _, _, by omega, by go_num, rfl, by omega, HA6, HO6.out, HB6.out, HR6.out, HN6, HS6⟩
              case measure => simp [intOf]; omega
            · obtain rfl : j = ln := by omega
              rw [List.take_of_length_le (by rw [← Hln.out]; omega)] at HA'
              go_wp2_with fail
              go_roundw
              case rel => exact ⟨i + 1, l', _, _, _, by omega, by omega, by omega, by go_num, rfl, Lib.hid (by rw [HA'.out, ← HFi.out, HA.out, show i + 1 - 1 = (i - 1) + 1 from by omega, List.range_succ, List.flatMap_append]; simp), HO2.out, HB2.out⟩
              case measure => simp [intOf]; omega
      · have hend : (List.range (i - 1)).flatMap F = (List.range (min n.toNat m.toNat)).flatMap F := by
          rw [show i - 1 = min n.toNat m.toNat from by omega]
        by_cases hmn : m < n
        all_goals
          have hni : ¬ (i : Int) ≤ (if m < n then m else n) := by split <;> omega
          go_wp2_with fail
          go_ret
          have h1 := HO1.out
          rw [HA.out, hend, ← HRR.out] at h1
          have hlen : l = rl := by rw [← h1.len, HRL.out]
          subst hlen
          exact ⟨_, _, rfl, HBe.out ▸ h1, HBe.out ▸ HB1.out⟩

theorem l03Words_any (k : Nat) : ∀ (n m : Int) (As A : Option Addr) (ns cs l c B K : Nat) (st : List Int) (xss : List (List Int)) (w : World), n.toNat ≤ k → 0 ≤ n → n ≤ 40 → 0 ≤ m → m ≤ 100 →
    OwnS w K As ns cs st → OwnL w B K A l c xss → B ≤ K → K ≤ w.heap.size → ns + n.toNat ≤ 40 → l + 2 ^ n.toNat ≤ 2000000000000 →
    Calls Try.prog 79 #[.int .i64 n, .int .i64 m, .slice As ns cs, .slice A l c] w (RetW B l (aw k n.toNat m.toNat).length A c (xss ++ (aw k n.toNat m.toNat).map (st ++ ·)) w) := by
  have zero : ∀ (k : Nat) (m : Int) (As A : Option Addr) (ns cs l c B K : Nat) (st : List Int) (xss : List (List Int)) (w : World), OwnS w K As ns cs st → OwnL w B K A l c xss → B ≤ K → K ≤ w.heap.size → l ≤ 2000000000000 →
      Calls Try.prog 79 #[.int .i64 0, .int .i64 m, .slice As ns cs, .slice A l c] w (RetW B l (aw k (0 : Int).toNat m.toNat).length A c (xss ++ (aw k (0 : Int).toNat m.toNat).map (st ++ ·)) w) := by
    intro k m As A ns cs l c B K st xss w ho hL hBK hK hl
    have hlw : aw k (0 : Int).toNat m.toNat = [[]] := by cases k <;> simp [aw]
    rw [hlw]
    clear hlw
    have HO := Lib.hid (ho.alloc (.cells #[.slice As ns cs] 22))
    have HL := Lib.hid (hL.alloc (.cells #[.slice As ns cs] 22))
    have HV := Lib.hid (rdV_new w (.slice As ns cs) 22)
    clear ho hL
    go_enter Try.func79, Try.ntmps79
    go_wp2_with (at_builtin; refine wpList_appL rfl (.tmp 12) (.tmp 14) rfl rfl rfl HL.out HO.out HV.out (by omega) hBK (by simp; omega) ?_)
    intro A2 c2 w2 ho2 hg2 hrow
    have HO2 := Lib.hid ho2
    have HG2 := Lib.hid (grownBy_trans (World.grownBy_alloc w (.cells #[.slice As ns cs] 22) _) hg2)
    have HR2 := Lib.hid (show ∀ g, Value.ownBlock (.slice A2 (l + 1) c2) = some g → Value.ownBlock (.slice A l c) = some g ∨ w.heap.size ≤ g from fun g hg => by
      rcases hrow with h | h
      · exact .inl (h ▸ hg)
      · rw [h] at hg; injection hg with hg; right; omega)
    clear ho2 hg2 hrow
    go_wp2_with fail
    go_ret
    exact ⟨_, _, rfl, by simpa using HO2.out, HG2.out, HR2⟩
  induction k with
  | zero =>
    intro n m As A ns cs l c B K st xss w hk hn0 hn1 hm0 hm1 ho hL hBK hK hns hl
    obtain rfl : n = 0 := by omega
    exact zero 0 m As A ns cs l c B K st xss w ho hL hBK hK (Nat.le_trans (Nat.le_add_right _ _) hl)
  | succ k ih =>
    intro n m As A ns cs l c B K st xss w hk hn0 hn1 hm0 hm1 ho hL hBK hK hns hl
    by_cases hnz : n = 0
    · subst hnz
      exact zero (k + 1) m As A ns cs l c B K st xss w ho hL hBK hK (Nat.le_trans (Nat.le_add_right _ _) hl)
    have IH := Lib.hid ih; clear ih zero
    have hs1 : (n == 0) = false := by simpa using hnz
    have hs2 : 1 ≤ n := by omega
    obtain ⟨F, hF⟩ : ∃ F : Nat → List (List Int), F = fun i => (aw k (n.toNat - (i + 1)) ((i + 1) / 2)).map (fun r => ((i + 1 : Nat) : Int) :: r) := ⟨_, rfl⟩
    have hlw : aw (k + 1) n.toNat m.toNat = (List.range (min n.toNat m.toNat)).flatMap F := by rw [hF, aw, if_neg (by omega)]
    obtain ⟨P, hP⟩ : ∃ P, P = 2 ^ n.toNat := ⟨_, rfl⟩
    have hP2 : P ≤ 1099511627776 := by rw [hP]; exact Nat.le_trans (Nat.pow_le_pow_right (by omega) (show n.toNat ≤ 40 by omega)) (by decide)
    have HFl : Hid (∀ i, i ≤ n.toNat → ((List.range i).flatMap F).length + 2 ^ (n.toNat - i) ≤ P) := Lib.hid (by
      intro i hi
      rw [hP]
      refine flatMap_range_pow F n.toNat i hi (fun j _ => ?_)
      rw [hF]; simp only [List.length_map]; exact aw_length _ _ _)
    rw [← hP] at hl
    have HF := Lib.hid hF
    rw [hlw]
    obtain ⟨R, hR⟩ : ∃ R, R = (List.range (min n.toNat m.toNat)).flatMap F := ⟨_, rfl⟩
    rw [← hR]
    have HRR := Lib.hid hR
    obtain ⟨rl, hrl⟩ : ∃ rl, rl = R.length := ⟨_, rfl⟩
    obtain ⟨Z, hZ⟩ : ∃ Z, Z = xss ++ R.map (st ++ ·) := ⟨_, rfl⟩
    rw [← hrl, ← hZ]
    have HRL := Lib.hid hrl
    have HZ := Lib.hid hZ
    have HO0 := Lib.hid ho
    have Hxl := Lib.hid hL.len
    have HL0 := Lib.hid (hL.mono (Nat.le_refl _) hK)
    clear hF hlw hR hrl hZ ho hL hP
    go_enter Try.func79, Try.ntmps79
    go_wp2_with fail
    go_loopw [3, 9] (fun o r wr => ∃ (i l' c' : Nat) (A' : Option Addr) (acc : List (List Int)), 1 ≤ i ∧ i ≤ n.toNat + 1 ∧ i ≤ m.toNat + 1 ∧ r = .int .i64 i ∧ o = .slice A' l' c' ∧ Hid (acc = xss ++ ((List.range (i - 1)).flatMap F).map (st ++ ·)) ∧
      OwnL wr B wr.heap.size A' l' c' acc ∧ OwnS wr K As ns cs st ∧ w.grownBy wr (Value.ownBlock (.slice A l c)) ∧ Hid (∀ g, Value.ownBlock (.slice A' l' c') = some g → Value.ownBlock (.slice A l c) = some g ∨ w.heap.size ≤ g)) (fun _ r _ => 41 - (intOf r).toNat)
    case atStart => exact ⟨1, l, c, A, xss, by omega, by omega, by omega, rfl, rfl, Lib.hid (by simp), HL0.out, HO0.out, World.grownBy.refl _ _, Lib.hid (fun g hg => .inl hg)⟩
    case round =>
      clear HL0 HO0
      obtain ⟨i, l', c', A', acc, hi1, hi2, hi3, rfl, rfl, HA, HL, HO, HG, HN⟩ := hrel
      have HL1 := Lib.hid HL; clear HL
      have HO1 := Lib.hid HO; clear HO
      have HG1 := Lib.hid HG; clear HG
      have hBr : B ≤ wr.heap.size := by have := HG1.out.size; omega
      have hl' : l' + 2 ^ (n.toNat - (i - 1)) ≤ l + P := by
        have h1 := HFl.out (i - 1) (by omega)
        have h2 := HL1.out.len
        rw [HA.out, List.length_append, List.length_map, Hxl.out] at h2
        omega
      by_cases him : (i : Int) ≤ m
      · by_cases hin : (i : Int) ≤ n
        · have hl2 : l' + 2 ^ (n - i).toNat ≤ 2000000000000 := by
            have h1 : 2 ^ (n - i).toNat ≤ 2 ^ (n.toNat - (i - 1)) := Nat.pow_le_pow_right (by omega) (by omega)
            omega
          have hl3 : l' ≤ 2000000000000 := Nat.le_trans (Nat.le_add_right _ _) hl2
          have Hl2 := Lib.hid hl2
          clear hl2 hl'
          go_wp2_with fail
          refine (l01Own_any As ns cs st _ HO1.out.rd (by omega)).mono ?_
          rintro e w1 ⟨A1, c1, rfl, ho1, hb1⟩
          have hb2 : Below w1.heap.size w1 (w1.alloc (.cells #[.int .i64 i] 2)) := (Below.refl _ _).alloc (Nat.le_refl _) _
          have O1 := Lib.hid (ho1.below hb2)
          have I1 := Lib.hid (rd_new w1 (i : Int) 2)
          have L2 := Lib.hid ((HL1.out.below hb1).below hb2)
          have S2 := Lib.hid ((HO1.out.below hb1).below hb2)
          have hb12 : Below wr.heap.size wr (w1.alloc (.cells #[.int .i64 i] 2)) := hb1.trans (hb2.mono hb1.size)
          have G2 := Lib.hid (grownBy_trans HG1.out (grown_of_below hb12 _))
          have Z2 := Lib.hid hb12.size
          clear ho1 hb1 hb2
          go_wp2_with (at_builtin; refine wpList_appI rfl (.tmp 32) (.tmp 34) rfl rfl rfl O1.out I1.out (by omega) Z2.out ?_)
          intro A3 c3 w3 ho3 hg3 _
          have hb3 : Below wr.heap.size wr w3 := hb12.grown hg3 Z2.out O1.out.row
          have O3 := Lib.hid ho3
          have L3 := Lib.hid (HL1.out.below hb3)
          have S3 := Lib.hid (HO1.out.below hb3)
          have G3 := Lib.hid (grownBy_trans HG1.out (grown_of_below hb3 _))
          have Z3 := Lib.hid hb3.size
          clear ho3 hg3 hb12 hb3 L2 S2 G2
          go_wp2_with fail
          refine (IH.out (n - i) (i / 2) A3 A' (ns + 1) c3 l' c' B wr.heap.size (st ++ [(i : Int)]) acc _ (by omega) (by omega) (by omega) (by omega) (by omega) O3.out L3.out hBr Z3.out (by omega) Hl2.out).mono ?_
          rintro e w4 ⟨A4, c4, rfl, ho4, hg4, hn4⟩
          obtain ⟨ws, hws⟩ : ∃ ws, ws = aw k (n - i).toNat ((i : Int) / 2).toNat := ⟨_, rfl⟩
          rw [← hws] at ho4 hn4 ⊢
          have hFi : F (i - 1) = ws.map (fun r => (i : Int) :: r) := by
            rw [HF.out, hws, show (n - (i : Int)).toNat = n.toNat - i from by omega, show ((i : Int) / 2).toNat = i / 2 from by omega]
            simp only [show i - 1 + 1 = i from by omega]
          obtain ⟨ln, hln⟩ : ∃ ln, ln = ws.length := ⟨_, rfl⟩
          rw [← hln] at ho4 hn4 ⊢
          have HA4 := Lib.hid (show acc ++ ws.map ((st ++ [(i : Int)]) ++ ·) = xss ++ ((List.range (i + 1 - 1)).flatMap F).map (st ++ ·) by
            rw [HA.out, show i + 1 - 1 = (i - 1) + 1 from by omega, List.range_succ, List.flatMap_append, List.map_append]
            simp [hFi])
          have L4 := Lib.hid ho4
          have S4 := Lib.hid (S3.out.grown hg4 (fun ad had e => kinds_ne (by decide) (S3.out.kind ad.block (by subst had; rfl)) (L3.out.kind ad.block e.symm) rfl))
          have G4 := Lib.hid (show w.grownBy w4 (Value.ownBlock (.slice A l c)) from
            ⟨hg4.os.trans G3.out.os, hg4.tape.trans G3.out.tape, hg4.output.trans G3.out.output, Nat.le_trans G3.out.size hg4.size, fun g hgw hgn =>
              (hg4.block g (Nat.lt_of_lt_of_le hgw G3.out.size) (fun e => by
                rcases HN.out g e.symm with h | h
                · exact hgn h.symm
                · omega)).trans (G3.out.block g hgw hgn)⟩)
          have N4 := Lib.hid (show ∀ g, Value.ownBlock (.slice A4 (l' + ln) c4) = some g → Value.ownBlock (.slice A l c) = some g ∨ w.heap.size ≤ g from fun g hg => by
            rcases hn4.out g hg with h | h
            · exact HN.out g h
            · right; exact Nat.le_trans G3.out.size h)
          clear ho4 hg4 hn4 hws hFi hln
          go_wp2_with fail
          go_roundw
          case rel => exact ⟨i + 1, l' + ln, _, _, _, by omega, by omega, by omega, by go_num, rfl, HA4, L4.out, S4.out, G4.out, N4⟩
          case measure => simp [intOf]; omega
        · have hend : i - 1 = min n.toNat m.toNat := by omega
          go_wp2_with fail
          go_ret
          have h1 := HL1.out
          rw [HA.out, hend, ← HRR.out, ← HZ.out] at h1
          have hlen : l' = l + rl := by rw [← h1.len, HZ.out, List.length_append, List.length_map, ← HRL.out, Hxl.out]
          subst hlen
          exact ⟨_, _, rfl, h1, HG1.out, HN⟩
      · have hend : i - 1 = min n.toNat m.toNat := by omega
        go_wp2_with fail
        go_ret
        have h1 := HL1.out
        rw [HA.out, hend, ← HRR.out, ← HZ.out] at h1
        have hlen : l' = l + rl := by rw [← h1.len, HZ.out, List.length_append, List.length_map, ← HRL.out, Hxl.out]
        subst hlen
        exact ⟨_, _, rfl, h1, HG1.out, HN⟩
end Go.Proofs.Ytgoefodemjelaaa
