/- All monomials of a degree on both sides: impl.monomials; spec.l08Monomials, l08All, l09Count. -/
import Derived.Test.YtoodhbafleemjaaGreatHitC
import Derived.Test.YtoodhbafleemjaaGreatWords
import Derived.Test.YtoodhbafleemjaaGreatMon
import Derived.Test.YtoodhbafleemjaaGreatTri
namespace Go.Proofs.YtoodhbafleemjaaGreat
open Go.RowKit
set_option linter.unusedVariables false

theorem mons_le {k d : Nat} (hk : k ≤ 3) (hd : d ≤ 40) : (mons k d).length ≤ 12341 := by
  match k, hk with
  | 0, _ => simp [mons]
  | 1, _ => rw [mons_len1]; omega
  | 2, _ =>
    have h1 := mons_len2 d
    have h2 : (d + 1) * (d + 2) ≤ 41 * 42 := Nat.mul_le_mul (by omega) (by omega)
    omega
  | 3, _ =>
    have h1 := mons_len3 d
    have h2 : (d + 1) * (d + 2) * (d + 3) ≤ 41 * 42 * 43 := Nat.mul_le_mul (Nat.mul_le_mul (by omega) (by omega)) (by omega)
    omega
theorem mons_each {k d : Nat} : ∀ z ∈ mons k d, z.length = k + 1 := fun z hz => ((mons_mem k d z).1 hz).2.2

theorem monomials_any (k : Nat) : ∀ (v dd : Int) (d : Nat) (w : World), v = (k : Int) + 1 → dd = (d : Int) → k ≤ 3 → d ≤ 40 →
    Calls Tryz.prog 86 #[.int .i64 v, .int .i64 dd] w (RetL (mons k d).length (mons k d) w) := by
  induction k with
  | zero =>
    intro v dd d w hv hdd _ hd
    obtain rfl : v = 1 := by omega
    have HO := Lib.hid ((ownL_one (own_one w dd w.heap.size (Nat.le_refl _)) (by simp)).mono (Nat.le_refl _) (Nat.le_succ _))
    have HB := Lib.hid (((Below.refl w.heap.size w).alloc (Nat.le_refl _) (.cells #[.int .i64 dd] 2)).alloc (by simp) (.cells #[.slice (some ⟨w.heap.size, 0, none⟩) 1 1] 41))
    have HD := Lib.hid hdd
    clear hv hdd
    go_enter Tryz.func86, Tryz.ntmps86
    go_wp2_with fail
    go_ret
    refine ⟨_, _, rfl, ?_, ?_⟩
    · have := HO.out; rw [HD.out] at this ⊢; simpa [mons] using this
    · have := HB.out; simpa using this
  | succ k ih =>
    intro v dd d w hv hdd hk3 hd
    have IH := Lib.hid ih; clear ih
    have hv1 : (v == 1) = false := by simp; omega
    have hwv : IntKind.i64.wrap (v - 1) = v - 1 := by rw [IntKind.wrap_i64]; omega
    have hwd : IntKind.i64.wrap (dd + 1) = dd + 1 := by rw [IntKind.wrap_i64]; omega
    have Hv := Lib.hid hv; have Hdd := Lib.hid hdd
    have hv4 : 2 ≤ v ∧ v ≤ 4 := by omega
    have hd40 : 0 ≤ dd ∧ dd ≤ 40 := by omega
    clear hv hdd
    obtain ⟨B, hB⟩ : ∃ B, B = w.heap.size := ⟨_, rfl⟩
    have HBe := Lib.hid hB
    have hBle : B ≤ w.heap.size := by omega
    clear hB
    obtain ⟨F, hF⟩ : ∃ F : Nat → List (List Int), F = fun i => (mons k (d - i)).map (fun r => (i : Int) :: r) := ⟨_, rfl⟩
    have hlw : mons (k + 1) d = (List.range (d + 1)).flatMap F := by rw [hF]; rfl
    have HF := Lib.hid hF
    rw [hlw]
    obtain ⟨R, hR⟩ : ∃ R, R = (List.range (d + 1)).flatMap F := ⟨_, rfl⟩
    rw [← hR]
    have HRR := Lib.hid hR
    obtain ⟨rl, hrl⟩ : ∃ rl, rl = R.length := ⟨_, rfl⟩
    rw [← hrl]
    have HRL := Lib.hid hrl
    clear hF hlw hR hrl
    have HO := Lib.hid (ownL_empty w B (w.heap.size + 1) hBle)
    have HB := Lib.hid ((Below.refl B w).alloc hBle (.cells #[] 41))
    go_enter Tryz.func86, Tryz.ntmps86
    go_wp2_with fail
    go_loopw [5, 17] (fun o r wr => ∃ (i l c : Nat) (A : Option Addr) (acc : List (List Int)), (i : Int) ≤ dd + 1 ∧ r = .int .i64 i ∧ o = .slice A l c ∧ l ≤ i * 12341 ∧ Hid (acc = (List.range i).flatMap F) ∧ OwnL wr B wr.heap.size A l c acc ∧ Below B w wr) (fun _ r _ => 100 - (intOf r).toNat)
    case atStart => exact ⟨0, 0, _, _, [], by omega, rfl, rfl, by omega, Lib.hid rfl, by simpa using HO.out, HB.out⟩
    case round =>
      clear HO HB
      obtain ⟨i, l, c, A, acc, hi2, rfl, rfl, hl, HA, HO, HB⟩ := hrel
      have HO1 := Lib.hid HO; clear HO
      have HB1 := Lib.hid HB; clear HB
      by_cases hin : (i : Int) ≤ dd
      · have hin' : (i : Int) < dd + 1 := by omega
        have hwi : IntKind.i64.wrap (dd - (i : Int)) = dd - (i : Int) := by rw [IntKind.wrap_i64]; omega
        have hi0 : (0 : Int) ≤ (i : Int) := by omega
        have C1 := Lib.hid (IH.out (v - 1) (dd - (i : Int)) (d - i) wr (by have := Hv.out; push_cast at this; omega) (by have := Hdd.out; omega) (by omega) (by omega))
        go_wp2_with fail
        refine C1.out.mono ?_
        rintro e w1 ⟨A1, c1, rfl, ho1, hb1⟩
        obtain ⟨ws, hws⟩ : ∃ ws, ws = mons k (d - i) := ⟨_, rfl⟩
        rw [← hws] at ho1 ⊢
        have hFi : F i = ws.map (fun r => (i : Int) :: r) := by rw [HF.out, hws]
        have hwl : ws.length ≤ 12341 := by rw [hws]; exact mons_le (by omega) (by omega)
        have HFi := Lib.hid hFi
        have Hwe : Hid (∀ r ∈ ws, r.length = k + 1) := Lib.hid (by rw [hws]; exact mons_each)
        clear hws hFi C1
        have hBr : B ≤ wr.heap.size := by have := HB1.out.size; omega
        have O1 := Lib.hid ((HO1.out.below hb1).mono (Nat.le_refl B) hb1.size)
        have N1 := Lib.hid (show ∀ g, Value.ownBlock (.slice A l c) = some g → Value.ownBlock (.slice A1 ws.length c1) ≠ some g from fun g hg hg' => by
          have h1 := HO1.out.lt g hg; have h2 := ho1.row g hg'; omega)
        have R1 := Lib.hid ho1
        have B1 := Lib.hid (HB1.out.trans (hb1.mono hBr)); clear ho1 hb1
        obtain ⟨ln, hln⟩ : ∃ ln, ln = ws.length := ⟨_, rfl⟩
        rw [← hln] at R1 N1 ⊢
        have Hln := Lib.hid hln
        have hln2 : ln ≤ 12341 := by omega
        clear hln hwl
        obtain ⟨S0, hS0⟩ : ∃ S0, S0 = wr.heap.size := ⟨_, rfl⟩
        rw [← hS0] at R1
        clear hS0
        go_wp2_with fail
        go_loopw [5, 27] (fun o r wr => ∃ (j l' c' : Nat) (A' : Option Addr) (acc' : List (List Int)), j ≤ ln ∧ r = .int .i64 j ∧ o = .slice A' l' c' ∧ l' ≤ i * 12341 + j ∧ Hid (acc' = acc ++ (ws.take j).map (fun r => (i : Int) :: r)) ∧
          OwnL wr B wr.heap.size A' l' c' acc' ∧ Below B w wr ∧ OwnL wr S0 w1.heap.size A1 ln c1 ws ∧ Hid (∀ g, Value.ownBlock (.slice A' l' c') = some g → Value.ownBlock (.slice A1 ln c1) ≠ some g) ∧ Hid (w1.heap.size ≤ wr.heap.size)) (fun _ r _ => ln - (intOf r).toNat)
        case atStart => exact ⟨0, l, c, A, acc, Nat.zero_le _, rfl, rfl, Nat.le_trans hl (Nat.le_add_right _ _), Lib.hid (by rw [List.take_zero, List.map_nil, List.append_nil]), O1.out, B1.out, R1.out, N1, Lib.hid (Nat.le_refl _)⟩
        case round =>
          clear HO1 HB1 O1 B1 R1 N1
          obtain ⟨j, l', c', A', acc', hj, rfl, rfl, hl', HA', HO, HB, HR, HN, HS⟩ := hrel
          have HO2 := Lib.hid HO; clear HO
          have HB2 := Lib.hid HB; clear HB
          have HR2 := Lib.hid HR; clear HR
          by_cases hlt : j < ln
          · obtain ⟨ad, A3, n3, c3, r, rfl, _, hr, hc, hrs⟩ := HR2.out.rd.at_ hlt
            have hb0 : Below wr.heap.size wr (wr.alloc (.cells #[.int .i64 i] 2)) := (Below.refl _ _).alloc (Nat.le_refl _) _
            have I1 := Lib.hid (own_one wr (i : Int) wr.heap.size (Nat.le_refl _))
            have I2 := Lib.hid (hrs.below hb0)
            have hBs : B ≤ wr.heap.size := by have := HB2.out.size; have := HBe.out; omega
            have hn3 : n3 ≤ 7 := by rw [← hrs.len, Hwe.out r (List.mem_of_getElem? hr.out)]; omega
            clear hrs
            go_wp2_with (at_builtin; refine wpList_appI rfl (.tmp 33) (.tmp 34) rfl rfl rfl I1.out I2.out (by omega) (by simp) ?_)
            intro A4 c4 w4 ho4 hg4 _
            have hb4 : Below wr.heap.size wr w4 := hb0.grown hg4 (by simp) I1.out.row
            have I4 := Lib.hid ho4; clear ho4
            have hb5 : Below w4.heap.size w4 (w4.alloc (.cells #[.slice A4 (1 + n3) c4] 41)) := (Below.refl _ _).alloc (Nat.le_refl _) _
            have I5 := Lib.hid (I4.out.below hb5)
            have HO5 := Lib.hid ((HO2.out.below hb4).below hb5)
            have HR5 := Lib.hid ((HR2.out.below hb4).below hb5)
            have HB5 := Lib.hid ((HB2.out.trans (hb4.mono hBs)).trans (hb5.mono (Nat.le_trans hBs hb4.size)))
            have V5 := Lib.hid (rdV_new w4 (.slice A4 (1 + n3) c4) 41)
            have S5 := Lib.hid (show wr.heap.size ≤ (w4.alloc (.cells #[.slice A4 (1 + n3) c4] 41)).heap.size from Nat.le_trans hb4.size hb5.size)
            clear hb0 hb4 hb5 hg4
            go_wp2_with (at_builtin; refine wpList_appL rfl (.tmp 31) (.tmp 36) rfl rfl rfl HO5.out I5.out V5.out (by omega) hBs S5.out ?_)
            intro A6 c6 w6 ho6 hg6 hrow6
            have hj' : ws.take (j + 1) = ws.take j ++ [r] := by rw [List.take_add_one, hr.out]; rfl
            have HA6 := Lib.hid (show acc' ++ [[(i : Int)] ++ r] = acc ++ (ws.take (j + 1)).map (fun r => (i : Int) :: r) by rw [HA'.out, hj', List.map_append]; simp)
            have HR6 := Lib.hid (HR5.out.grownL hg6 HN.out HO5.out.kind)
            have HN6 := Lib.hid (ne_row hrow6 HN.out (fun g hg => by have := HR5.out.lt g hg; simpa using this))
            have HB6 := Lib.hid (HB5.out.grown hg6 (Nat.le_trans hBs S5.out) HO5.out.row)
            have HS6 := Lib.hid (Nat.le_trans HS.out (Nat.le_trans S5.out hg6.size))
            have HO6 := Lib.hid ho6; clear ho6 hg6 hrow6 hj'
            go_wp2_with fail
            go_roundw
            case rel => exact ⟨j + 1, l' + 1, _, _, _, by omega, by go_num, rfl, by omega, HA6, HO6.out, HB6.out, HR6.out, HN6, HS6⟩
            case measure => simp [intOf]; omega
          · obtain rfl : j = ln := by omega
            rw [List.take_of_length_le (by rw [← Hln.out]; omega)] at HA'
            go_wp2_with fail
            go_roundw
            case rel => exact ⟨i + 1, l', _, _, _, by omega, by go_num, rfl, by omega, Lib.hid (by rw [HA'.out, ← HFi.out, HA.out, List.range_succ, List.flatMap_append]; simp), HO2.out, HB2.out⟩
            case measure => simp [intOf]; omega
      · have hend : i = d + 1 := by have := Hdd.out; omega
        have hni : ¬ (i : Int) < dd + 1 := by omega
        have hnd : decide ((i : Int) < dd + 1) = false := decide_eq_false hni
        have HEnd := Lib.hid hend
        clear hend
        go_wp2_with fail
        go_ret
        have h1 := HO1.out
        rw [HA.out, HEnd.out, ← HRR.out] at h1
        have hlen : l = rl := by rw [← h1.len, HRL.out]
        subst hlen
        exact ⟨_, _, rfl, HBe.out ▸ h1, HBe.out ▸ HB1.out⟩
theorem mons_step {j d : Nat} (hj : j + 1 ≤ 3) : (mons (j + 1) d).length * (j + 1) = (mons j d).length * (d + (j + 1)) := by
  match j, hj with
  | 0, _ => rw [mons_len1]; simp [mons]
  | 1, _ =>
    have h1 := mons_len2 d
    rw [mons_len1]
    rw [show 1 + 1 = 2 from rfl, Nat.mul_comm _ 2]; exact h1
  | 2, _ =>
    have h1 := mons_len3 d
    have h2 := mons_len2 d
    rw [← h2, Nat.mul_assoc] at h1
    rw [show 2 + 1 = 3 from rfl]
    omega
theorem count09_any (k d : Nat) (v dd : Int) (w : World) (hv : v = (k : Int) + 1) (hdd : dd = (d : Int)) (hk : k ≤ 3) (hd : d ≤ 40) :
    Calls Tryz.prog 82 #[.int .i64 v, .int .i64 dd] w (RetI ((mons k d).length : Nat) w) := by
  subst hv; subst hdd
  obtain ⟨R, hR⟩ : ∃ R, R = RetI ((mons k d).length : Nat) w := ⟨_, rfl⟩
  have HR := Lib.hid hR
  rw [← hR]
  clear hR
  go_enter Tryz.func82, Tryz.ntmps82
  go_wp2_with fail
  go_loop [5, 6] (fun o i => ∃ j c : Nat, j ≤ k ∧ i = .int .i64 ((j : Int) + 1) ∧ o = .int .i64 c ∧ Hid (c = (mons j d).length)) (fun _ i => 10 - (intOf i).toNat)
  case atStart => exact ⟨0, 1, Nat.zero_le _, rfl, rfl, Lib.hid (by simp [mons])⟩
  case round =>
    obtain ⟨j, c, hj, rfl, rfl, HC⟩ := hrel
    by_cases hlt : j < k
    · have hc := mons_le (k := j) (d := d) (by omega) hd
      rw [← HC.out] at hc
      have hst := mons_step (j := j) (d := d) (by omega)
      rw [← HC.out] at hst
      obtain ⟨c2, hc2⟩ : ∃ c2, c2 = (mons (j + 1) d).length := ⟨_, rfl⟩
      rw [← hc2] at hst
      have hc2b : c2 ≤ 12341 := by rw [hc2]; exact mons_le (by omega) hd
      obtain ⟨q, hq⟩ : ∃ q : Nat, q = c * (d + (j + 1)) := ⟨_, rfl⟩
      have hqb : q ≤ 12341 * 44 := by rw [hq]; exact Nat.mul_le_mul hc (by omega)
      have hlt' : (j : Int) + 1 < (k : Int) + 1 := by omega
      have hw1 : IntKind.i64.wrap ((d : Int) + ((j : Int) + 1)) = (d : Int) + ((j : Int) + 1) := by rw [IntKind.wrap_i64]; omega
      have hm : (c : Int) * ((d : Int) + ((j : Int) + 1)) = (q : Int) := by rw [hq]; push_cast; rfl
      have hw2 : IntKind.i64.wrap (q : Int) = (q : Int) := by rw [IntKind.wrap_i64]; omega
      have hnz : ((j : Int) + 1 == 0) = false := by simp; omega
      have hdv : Int.tdiv (q : Int) ((j : Int) + 1) = (c2 : Int) := by
        have : (q : Int) = (c2 : Int) * ((j : Int) + 1) := by rw [hq, ← hst]; push_cast; rfl
        rw [this]
        exact Int.mul_tdiv_cancel _ (by omega)
      have HC2 := Lib.hid hc2
      clear hst hq hc2
      go_wp2_with fail
      go_round
      case rel =>
        exact ⟨j + 1, c2, by omega, by go_num, by go_num, HC2⟩
      case measure => simp [intOf]; omega
    · obtain rfl : j = k := by omega
      go_wp2_with fail
      rw [HR.out, ← HC.out]
      exact RetI.mk (y := c) rfl
end Go.Proofs.YtoodhbafleemjaaGreat

/- spec.l08Monomials, spec.l08All: all monomials of a degree. -/
namespace Go.Proofs.YtoodhbafleemjaaGreat
open Go.RowKit
set_option linter.unusedVariables false

theorem l08Monomials_any (k : Nat) : ∀ (v dd : Int) (d : Nat) (As A : Option Addr) (ns cs l c B K : Nat) (st : List Int) (xss : Pol) (w : World), v = (k : Int) + 1 → dd = (d : Int) → k ≤ 3 → d ≤ 40 →
    OwnS w K As ns cs st → OwnL w B K A l c xss → B ≤ K → K ≤ w.heap.size → ns + k ≤ 3 → l ≤ 1000000 + 20000 * (3 - k) →
    Calls Tryz.prog 124 #[.int .i64 v, .int .i64 dd, .slice As ns cs, .slice A l c] w (RetW B l (mons k d).length A c (xss ++ (mons k d).map (st ++ ·)) w) := by
  induction k with
  | zero =>
    intro v dd d As A ns cs l c B K st xss w hv hdd _ hd ho hL hBK hK hns hl
    obtain rfl : v = 1 := by omega
    have HD := Lib.hid hdd
    have HO := Lib.hid (ho.mono (Nat.le_refl _))
    have hBw : B ≤ w.heap.size := Nat.le_trans hBK hK
    have HL := Lib.hid (hL.mono (Nat.le_refl _) hK)
    clear hv hdd ho hL
    go_enter Tryz.func124, Tryz.ntmps124
    go_wp2_with fail
    refine (l01Own_any As ns cs st _ HO.out.rd (by omega)).mono ?_
    rintro e w1 ⟨A1, c1, rfl, ho1, hb1⟩
    have hb2 : Below w1.heap.size w1 (w1.alloc (.cells #[.int .i64 dd] 2)) := (Below.refl _ _).alloc (Nat.le_refl _) _
    have O1 := Lib.hid (ho1.below hb2)
    have I1 := Lib.hid (rd_new w1 dd 2)
    have hb12 : Below w.heap.size w (w1.alloc (.cells #[.int .i64 dd] 2)) := hb1.trans (hb2.mono hb1.size)
    have Z2 := Lib.hid hb12.size
    clear ho1 hb1 hb2
    go_wp2_with (at_builtin; refine wpList_appI rfl (.tmp 14) (.tmp 16) rfl rfl rfl O1.out I1.out (by omega) Z2.out ?_)
    intro A3 c3 w3 ho3 hg3 _
    have hb3 : Below w.heap.size w w3 := hb12.grown hg3 Z2.out O1.out.row
    have hb4 : Below w3.heap.size w3 (w3.alloc (.cells #[.slice A3 (ns + 1) c3] 41)) := (Below.refl _ _).alloc (Nat.le_refl _) _
    have hb34 : Below w.heap.size w (w3.alloc (.cells #[.slice A3 (ns + 1) c3] 41)) := hb3.trans (hb4.mono hb3.size)
    have O4 := Lib.hid (ho3.below hb4)
    have L4 := Lib.hid (HL.out.below hb34)
    have V4 := Lib.hid (rdV_new w3 (.slice A3 (ns + 1) c3) 41)
    have Z4 := Lib.hid hb34.size
    have G4 := Lib.hid (grown_of_below hb34 (Value.ownBlock (.slice A l c)))
    clear hb12 hb3 hb4 hb34 ho3 hg3
    go_wp2_with (at_builtin; refine wpList_appL rfl (.tmp 12) (.tmp 18) rfl rfl rfl L4.out O4.out V4.out (by omega) hBw Z4.out ?_)
    intro A5 c5 w5 ho5 hg5 hrow
    have O5 := Lib.hid ho5
    have G5 := Lib.hid (grownBy_trans G4.out hg5)
    have R5 := Lib.hid (show ∀ g, Value.ownBlock (.slice A5 (l + 1) c5) = some g → Value.ownBlock (.slice A l c) = some g ∨ w.heap.size ≤ g from fun g hg => by
      rcases hrow with h | h
      · exact .inl (h ▸ hg)
      · rw [h] at hg; have h1 := Option.some.inj hg; have h2 : w.heap.size ≤ w3.heap.size + 1 := (by have := Z4.out; simpa using this); right; rw [← h1]; exact h2)
    clear ho5 hg5 hrow
    go_wp2_with fail
    go_ret
    refine ⟨_, _, rfl, ?_, G5.out, R5⟩
    have := O5.out
    rw [HD.out] at this
    simpa [mons] using this
  | succ k ih =>
    intro v dd d As A ns cs l c B K st xss w hv hdd hk3 hd ho hL hBK hK hns hl
    have IH := Lib.hid ih; clear ih
    have hv1 : (v == 1) = false := by simp; omega
    have hwv : IntKind.i64.wrap (v - 1) = v - 1 := by rw [IntKind.wrap_i64]; omega
    have Hv := Lib.hid hv; have Hdd := Lib.hid hdd
    have hv4 : 2 ≤ v ∧ v ≤ 4 := by omega
    have hd40 : 0 ≤ dd ∧ dd ≤ 40 := by omega
    clear hv hdd
    obtain ⟨F, hF⟩ : ∃ F : Nat → Pol, F = fun i => (mons k (d - i)).map (fun r => (i : Int) :: r) := ⟨_, rfl⟩
    have hlw : mons (k + 1) d = (List.range (d + 1)).flatMap F := by rw [hF]; rfl
    have HF := Lib.hid hF
    have HML := Lib.hid (mons_le (k := k + 1) (d := d) hk3 hd)
    rw [hlw]
    obtain ⟨R, hR⟩ : ∃ R, R = (List.range (d + 1)).flatMap F := ⟨_, rfl⟩
    rw [← hR]
    have HRR := Lib.hid hR
    obtain ⟨rl, hrl⟩ : ∃ rl, rl = R.length := ⟨_, rfl⟩
    obtain ⟨Z, hZ⟩ : ∃ Z, Z = xss ++ R.map (st ++ ·) := ⟨_, rfl⟩
    rw [← hrl, ← hZ]
    have HRL := Lib.hid hrl
    have HZ := Lib.hid hZ
    have HO0 := Lib.hid ho
    have Hxl := Lib.hid hL.len
    have HL0 := Lib.hid (hL.mono (Nat.le_refl _) hK)
    have HLW := Lib.hid hlw
    clear hF hlw hR hrl hZ ho hL
    go_enter Tryz.func124, Tryz.ntmps124
    go_wp2_with fail
    go_loopw [3, 9] (fun o r wr => ∃ (i l' c' : Nat) (A' : Option Addr) (acc : Pol), i ≤ d + 1 ∧ r = .int .i64 i ∧ o = .slice A' l' c' ∧ Hid (l' = l + ((List.range i).flatMap F).length) ∧ Hid (acc = xss ++ ((List.range i).flatMap F).map (st ++ ·)) ∧
      OwnL wr B wr.heap.size A' l' c' acc ∧ OwnS wr K As ns cs st ∧ w.grownBy wr (Value.ownBlock (.slice A l c)) ∧ Hid (∀ g, Value.ownBlock (.slice A' l' c') = some g → Value.ownBlock (.slice A l c) = some g ∨ w.heap.size ≤ g)) (fun _ r _ => 100 - (intOf r).toNat)
    case atStart => exact ⟨0, l, c, A, xss, by omega, rfl, rfl, Lib.hid (by simp), Lib.hid (by simp), HL0.out, HO0.out, World.grownBy.refl _ _, Lib.hid (fun g hg => .inl hg)⟩
    case round =>
      clear HL0 HO0
      obtain ⟨i, l', c', A', acc, hi2, rfl, rfl, HLL, HA, HL, HO, HG, HN⟩ := hrel
      have HL1 := Lib.hid HL; clear HL
      have HO1 := Lib.hid HO; clear HO
      have HG1 := Lib.hid HG; clear HG
      have hBr : B ≤ wr.heap.size := by have := HG1.out.size; omega
      by_cases hin : (i : Int) ≤ dd
      · have hid : i ≤ d := by have := Hdd.out; omega
        have hl' : l' ≤ l + 12341 := by
          rw [HLL.out]
          have h1 : ((List.range i).flatMap F).length ≤ ((List.range (d + 1)).flatMap F).length := by
            have : d + 1 = i + (d + 1 - i) := by omega
            rw [this, List.range_add, List.flatMap_append, List.length_append]
            exact Nat.le_add_right _ _
          have h2 := HML.out
          rw [HLW.out] at h2
          omega
        have hwi : IntKind.i64.wrap (dd - (i : Int)) = dd - (i : Int) := by rw [IntKind.wrap_i64]; omega
        go_wp2_with fail
        refine (l01Own_any As ns cs st _ HO1.out.rd (by omega)).mono ?_
        rintro e w1 ⟨A1, c1, rfl, ho1, hb1⟩
        have hb2 : Below w1.heap.size w1 (w1.alloc (.cells #[.int .i64 i] 2)) := (Below.refl _ _).alloc (Nat.le_refl _) _
        have O1 := Lib.hid (ho1.below hb2)
        have I1 := Lib.hid (rd_new w1 (i : Int) 2)
        have hb12 : Below wr.heap.size wr (w1.alloc (.cells #[.int .i64 i] 2)) := hb1.trans (hb2.mono hb1.size)
        have Z2 := Lib.hid hb12.size
        clear ho1 hb1 hb2
        go_wp2_with (at_builtin; refine wpList_appI rfl (.tmp 31) (.tmp 33) rfl rfl rfl O1.out I1.out (by omega) Z2.out ?_)
        intro A3 c3 w3 ho3 hg3 _
        have hb3 : Below wr.heap.size wr w3 := hb12.grown hg3 Z2.out O1.out.row
        have O3 := Lib.hid ho3
        have L3 := Lib.hid (HL1.out.below hb3)
        have S3 := Lib.hid (HO1.out.below hb3)
        have G3 := Lib.hid (grownBy_trans HG1.out (grown_of_below hb3 _))
        have Z3 := Lib.hid hb3.size
        clear ho3 hg3 hb12 hb3
        go_wp2_with fail
        refine (IH.out (v - 1) (dd - i) (d - i) A3 A' (ns + 1) c3 l' c' B wr.heap.size (st ++ [(i : Int)]) acc _ (by have := Hv.out; push_cast at this; omega) (by have := Hdd.out; omega) (by omega) (by omega) O3.out L3.out hBr Z3.out (by omega) (by omega)).mono ?_
        rintro e w4 ⟨A4, c4, rfl, ho4, hg4, hn4⟩
        obtain ⟨ws, hws⟩ : ∃ ws, ws = mons k (d - i) := ⟨_, rfl⟩
        rw [← hws] at ho4 hn4 ⊢
        have hFi : F i = ws.map (fun r => (i : Int) :: r) := by rw [HF.out, hws]
        obtain ⟨ln, hln⟩ : ∃ ln, ln = ws.length := ⟨_, rfl⟩
        rw [← hln] at ho4 hn4 ⊢
        have HA4 := Lib.hid (show acc ++ ws.map ((st ++ [(i : Int)]) ++ ·) = xss ++ ((List.range (i + 1)).flatMap F).map (st ++ ·) by
          rw [HA.out, List.range_succ, List.flatMap_append, List.map_append]
          simp [hFi])
        have HLL4 := Lib.hid (show l' + ln = l + ((List.range (i + 1)).flatMap F).length by
          rw [HLL.out, List.range_succ, List.flatMap_append, List.length_append]
          simp [hFi, hln]; omega)
        have L4 := Lib.hid ho4
        have S4 := Lib.hid (S3.out.grown hg4 (fun ad had e => kinds_ne (by decide) (S3.out.kind ad.block (by subst had; rfl)) (L3.out.kind ad.block e.symm) rfl))
        have G4 := Lib.hid (show w.grownBy w4 (Value.ownBlock (.slice A l c)) from
          ⟨hg4.os.trans G3.out.os, hg4.tape.trans G3.out.tape, hg4.output.trans G3.out.output, Nat.le_trans G3.out.size hg4.size, fun g hgw hgn =>
            (hg4.block g (Nat.lt_of_lt_of_le hgw G3.out.size) (fun e => by
              rcases HN.out g e.symm with h | h
              · exact hgn h.symm
              · omega)).trans (G3.out.block g hgw hgn)⟩)
        have N4 := Lib.hid (show ∀ g, Value.ownBlock (.slice A4 (l' + ln) c4) = some g → Value.ownBlock (.slice A l c) = some g ∨ w.heap.size ≤ g from fun g hg => by
          rcases hn4.out g hg with h | h
          · exact HN.out g h
          · right; exact Nat.le_trans G3.out.size h)
        clear ho4 hg4 hn4 hws hFi hln
        go_wp2_with fail
        go_roundw
        case rel => exact ⟨i + 1, l' + ln, _, _, _, by omega, by go_num, rfl, HLL4, HA4, L4.out, S4.out, G4.out, N4⟩
        case measure => simp [intOf]; omega
      · have hend : i = d + 1 := by have := Hdd.out; omega
        have HEnd := Lib.hid hend
        clear hend
        go_wp2_with fail
        go_ret
        have h1 := HL1.out
        rw [HA.out, HEnd.out, ← HRR.out, ← HZ.out] at h1
        have hlen : l' = l + rl := by rw [← h1.len, HZ.out, List.length_append, List.length_map, ← HRL.out, Hxl.out]
        subst hlen
        exact ⟨_, _, rfl, h1, HG1.out, HN⟩
set_option maxRecDepth 100000 in
theorem l08All_any (k d : Nat) (v dd : Int) (w : World) (hv : v = (k : Int) + 1) (hdd : dd = (d : Int)) (hk : k ≤ 3) (hd : d ≤ 40) :
    Calls Tryz.prog 84 #[.int .i64 v, .int .i64 dd] w (RetL (mons k d).length (mons k d) w) := by
  have HO := Lib.hid (own_empty w w.heap.size (Nat.le_refl _))
  have HL : Hid (OwnL (w.alloc (.cells #[] 2)) w.heap.size w.heap.size none 0 0 []) := Lib.hid OwnL.nil
  have HB := Lib.hid ((Below.refl w.heap.size w).alloc (Nat.le_refl _) (.cells #[] 2))
  obtain ⟨ws, hws⟩ : ∃ ws, ws = mons k d := ⟨_, rfl⟩
  obtain ⟨ln, hln⟩ : ∃ ln, ln = ws.length := ⟨_, rfl⟩
  have HW := Lib.hid hws
  rw [← hws, ← hln]
  have HLn := Lib.hid hln
  clear hws hln
  have HC := Lib.hid (l08Monomials_any k v dd d _ none 0 0 0 0 w.heap.size w.heap.size [] [] _ hv hdd hk hd HO.out HL.out (Nat.le_refl _) (by simp) (by omega) (Nat.zero_le _))
  clear hv hdd hk hd
  rw [← HW.out] at HC
  rw [← HLn.out] at HC
  go_enter Tryz.func84, Tryz.ntmps84
  go_wp2_with fail
  refine HC.out.mono ?_
  rintro e w1 ⟨A1, c1, rfl, ho1, hg1, _⟩
  have HO1 := Lib.hid ho1
  have HB1 := Lib.hid (HB.out.trans ((Below.refl w.heap.size _).grown hg1 (by simp) (by intro g hg; cases hg))); clear ho1 hg1
  go_wp2_with fail
  go_ret
  exact ⟨_, _, rfl, by simpa using HO1.out, HB1.out⟩
end Go.Proofs.YtoodhbafleemjaaGreat

/- spec.l09Rows: the rows of hit polynomials. -/
namespace Go.Proofs.YtoodhbafleemjaaGreat
open Go.RowKit
set_option linter.unusedVariables false

theorem Tryz.info_q3 : (Tryz.prog.info? 24).map (fun i => (i.zero, i.size, i.bytes)) = some (some (.slice none 0 0), 1, 24) := by kernel_rfl
theorem eltQ3 : Elt 101 24 24 := ⟨Tryz.underlying101, by obtain ⟨i, hi, hz, hs, hb⟩ := info_parts Tryz.info_q3; exact ⟨i, _, hi, hz, hs, hb, rfl⟩⟩
theorem run_preQ (A : Option Addr) (n c k : Nat) (hk : k ≤ c) (W : World) : (Instr.sliceAt 101 (.slice A n c) Option.none (some (.int .i64 (k : Int))) Option.none).run Tryz.prog W = .ok (.slice A k c) W := by
  have h : (k : Int) ≤ (c : Int) := by omega
  have e : A.map (·.add 0) = A := by cases A <;> simp [addr_add_zero]
  simp [go_sem, Tryz.underlying101, h, sliced]
theorem run_sufQ (A : Option Addr) (n c m : Nat) (hm : m ≤ n) (W : World) : (Instr.sliceAt 101 (.slice A n c) (some (.int .i64 (m : Int))) Option.none Option.none).run Tryz.prog W = .ok (.slice (sufA A c m) (n - m) (c - m)) W := by
  have h : (m : Int) ≤ (n : Int) := by omega
  simp only [sufA]
  cases A with
  | none => simp [go_sem, Tryz.underlying101, h, sliced]
  | some ad =>
    by_cases hc : c = m
    · simp [go_sem, Tryz.underlying101, h, sliced, hc]
    · simp [go_sem, Tryz.underlying101, h, sliced, hc]
theorem putR_at {x : Pol} : ∀ {rows : List Pol} {k : Nat}, k ≤ rows.length → (∀ j, j < k → ∀ y, rows[j]? = some y → ltL (lastL x) (lastL y) = true) → (∀ y, rows[k]? = some y → ltL (lastL x) (lastL y) = false) → putR x rows = rows.take k ++ x :: rows.drop k
  | [], k, hk, h1, h2 => by
    have : k = 0 := by simpa using hk
    subst this; simp [putR]
  | y :: s, 0, hk, h1, h2 => by
    have := h2 y rfl
    rw [putR, if_neg (by rw [this]; simp)]; simp
  | y :: s, k + 1, hk, h1, h2 => by
    have hy := h1 0 (Nat.succ_pos _) y rfl
    have ih := putR_at (x := x) (rows := s) (k := k) (by simpa using hk) (fun j hj z hz => h1 (j + 1) (by omega) z (by simpa using hz)) (fun z hz => h2 z (by simpa using hz))
    rw [putR, if_pos hy, ih]; simp
theorem rows_le {rows : List Pol} {M : Pol} (h : RowsOk rows) (hs : ∀ r ∈ rows, ∀ z ∈ r, z ∈ M) : rows.length ≤ M.length := by
  have hn : (rows.map lastL).Nodup := by
    unfold List.Nodup
    rw [List.pairwise_map]
    refine h.desc.imp fun {a b} hab e => ?_
    rw [e, ltL_irrefl] at hab; cases hab
  have := hn.length_le_of_subset (l₂ := M) fun z hz => by
    obtain ⟨r, hr, rfl⟩ := List.mem_map.1 hz
    exact hs r hr _ (lastL_mem (h.each r hr).2)
  simpa using this
theorem mons_small {k d : Nat} (hk : k ≤ 3) (hd : d ≤ 40) : Small (mons k d) := ⟨Nat.le_trans (mons_le hk hd) (by omega), fun z hz => by rw [mons_each z hz]; omega⟩
/-- a call that answers rows that are only read -/
def RetRC (qs : List Pol) (w : World) (e : Ending) (w' : World) : Prop := ∃ A c, e = .returned (.slice A qs.length c) ∧ RdC w' w'.heap.size A qs.length c qs ∧ Below w.heap.size w w'
theorem RetRC.mk {t u : List Pol} {A : Option Addr} {n c : Nat} {w w' : World} (h : RdC w' w'.heap.size A n c u) (e : u = t) (hb : Below w.heap.size w w') : RetRC t w (.returned (.slice A n c)) w' := by
  subst e
  obtain rfl := h.len
  exact ⟨A, c, rfl, h, hb⟩
theorem rdC_nil (w : World) : RdC (w.alloc (.cells #[] 24)) (w.alloc (.cells #[] 24)).heap.size (some ⟨w.heap.size, 0, none⟩) 0 0 [] := RdC.nil ⟨rfl, Nat.le_refl _, fun j h => absurd h (by simp)⟩
/-- the rows after some generators -/
structure Gens (M : Pol) (gs : List Pol) : Prop where
  all : ∀ g ∈ gs, Within M g
theorem Gens.rows {M : Pol} {gs : List Pol} (h : Gens M gs) : ∀ r ∈ rowsP gs, Within M r ∧ r ≠ [] := fun r hr => by
  have h1 := (rowsP_ok gs fun g hg => (h.all g hg).asc).each r hr
  exact ⟨⟨h1.1, rows_sub gs (fun g hg => (h.all g hg).sub) r hr⟩, h1.2⟩
theorem Gens.ok {M : Pol} {gs : List Pol} (h : Gens M gs) : RowsOk (rowsP gs) := rowsP_ok gs fun g hg => (h.all g hg).asc
theorem Gens.len {M : Pol} {gs : List Pol} (h : Gens M gs) : (rowsP gs).length ≤ M.length := rows_le h.ok fun r hr => (h.rows r hr).1.sub
theorem gens_mid {k d J m : Nat} (h : ∀ j < J + 1, 2 ^ j ≤ d) : Gens (mons k d) (gensTo k d J ++ (sqG k d J).take m) := ⟨fun g hg => by
  have h1 : g ∈ gensTo k d (J + 1) := by
    rw [gensTo_succ]
    rcases List.mem_append.1 hg with hg | hg
    · exact List.mem_append_left _ hg
    · exact List.mem_append_right _ (List.mem_of_mem_take hg)
  have := gensTo_sub h g h1
  exact ⟨this.1, this.2⟩⟩
theorem gens_J {k d J : Nat} (h : ∀ j < J, 2 ^ j ≤ d) : Gens (mons k d) (gensTo k d J) := ⟨fun g hg => by
  have := gensTo_sub h g hg
  exact ⟨this.1, this.2⟩⟩
theorem sqG_len (k d J : Nat) : (sqG k d J).length = (mons k (d - 2 ^ J)).length := by unfold sqG; rw [List.length_map]
theorem sqG_step {k d J m : Nat} {x : List Int} (hx : (mons k (d - 2 ^ J))[m]? = some x) : (sqG k d J).take (m + 1) = (sqG k d J).take m ++ [oddL (sqP [x] ((2 ^ J : Nat) : Int))] := by
  rw [List.take_add_one]
  unfold sqG
  rw [List.getElem?_map, hx]; rfl
set_option maxRecDepth 100000 in
set_option maxHeartbeats 1000000 in
theorem rows09_any (k d : Nat) (v dd : Int) (w : World) (hv : v = (k : Int) + 1) (hdd : dd = (d : Int)) (hk : k ≤ 3) (hd : d ≤ 40) (hM : (mons k d).length ≤ 1000) :
    Calls Tryz.prog 83 #[.int .i64 v, .int .i64 dd] w (RetRC (hitR k d) w) := by
  obtain ⟨R, hRR⟩ : ∃ R, R = RetRC (hitR k d) w := ⟨_, rfl⟩
  have HRR := Lib.hid hRR
  rw [← hRR]
  have Hv := Lib.hid hv
  have Hdd := Lib.hid hdd
  have HMS := Lib.hid (mons_small hk hd)
  have HML := Lib.hid hM
  have hd40 : 0 ≤ dd ∧ dd ≤ 40 := by omega
  have HR0 := Lib.hid (rdC_nil w)
  have HB0 := Lib.hid ((Below.refl w.heap.size w).alloc (Nat.le_refl _) (.cells #[] 24))
  clear hRR hv hdd hM
  go_enter Tryz.func83, Tryz.ntmps83
  go_wp2_with fail
  go_loopw [5, 6] (fun o i wr => ∃ (J P n c : Nat) (A : Option Addr), i = .int .i64 P ∧ o = .slice A n c ∧ Hid (P = 2 ^ J) ∧ Hid (∀ j < J, 2 ^ j ≤ d) ∧ P ≤ 80 ∧ 1 ≤ P ∧ Hid (RdC wr wr.heap.size A n c (rowsP (gensTo k d J))) ∧ Hid (Below w.heap.size w wr)) (fun _ i _ => 100 - (intOf i).toNat)
  case atStart => exact ⟨0, 1, 0, 0, _, rfl, rfl, Lib.hid rfl, Lib.hid (fun j hj => absurd hj (by omega)), by omega, by omega, HR0, HB0⟩
  case round =>
    clear HR0 HB0
    obtain ⟨J, P, n, c, A, rfl, rfl, HP, HJ, hP80, hP1, HR, HB⟩ := hrel
    by_cases hle : (P : Int) ≤ dd
    · have hPd : P ≤ d := by have := Hdd.out; omega
      have HJ1 : Hid (∀ j < J + 1, 2 ^ j ≤ d) := Lib.hid (fun j hj => by
        rcases Nat.lt_succ_iff_lt_or_eq.1 hj with h | rfl
        · exact HJ.out j h
        · rw [← HP.out]; exact hPd)
      have hws : IntKind.i64.wrap (dd - (P : Int)) = dd - (P : Int) := by rw [IntKind.wrap_i64]; omega
      have hw2 : IntKind.i64.wrap ((P : Int) * 2) = ((2 * P : Nat) : Int) := by rw [IntKind.wrap_i64]; omega
      have HA := Lib.hid (l08All_any k (d - P) v (dd - (P : Int)) wr Hv.out (by have := Hdd.out; omega) hk (by omega))
      obtain ⟨L, hL⟩ : ∃ L, L = mons k (d - P) := ⟨_, rfl⟩
      rw [← hL] at HA
      have HL := Lib.hid hL
      have HLl := Lib.hid (show L.length ≤ 12341 by rw [hL]; exact mons_le hk (by omega))
      obtain ⟨nl, hnl⟩ : ∃ nl, nl = L.length := ⟨_, rfl⟩
      rw [← hnl] at HA HLl
      have HNL := Lib.hid hnl
      clear hL hnl
      go_wp2_with fail
      refine HA.out.mono ?_
      rintro e w1 ⟨AL, cl, rfl, ho1, hb1⟩
      have HR1 := Lib.hid (HR.out.here hb1)
      have HL1 := Lib.hid ho1.rd
      have HB1 := Lib.hid (HB.out.trans (hb1.mono HB.out.size))
      have hnl2 : nl ≤ 12341 := HLl.out
      clear ho1 hb1
      go_wp2_with fail
      go_loopw [5, 8] (fun o j wr => ∃ (m n c : Nat) (A : Option Addr), m ≤ nl ∧ j = .int .i64 m ∧ o = .slice A n c ∧ Hid (RdC wr wr.heap.size A n c (rowsP (gensTo k d J ++ (sqG k d J).take m))) ∧ Hid (RdL wr wr.heap.size AL nl cl L) ∧ Hid (Below w.heap.size w wr)) (fun _ j _ => nl - (intOf j).toNat)
      case atStart => exact ⟨0, n, c, A, Nat.zero_le _, rfl, rfl, by rw [List.take_zero, List.append_nil]; exact HR1, HL1, HB1⟩
      case round =>
        clear HR1 HL1 HB1
        obtain ⟨m, n, c, A, hm, rfl, rfl, HR2, HL2, HB2⟩ := hrel
        obtain ⟨rows, hrows⟩ : ∃ r, r = rowsP (gensTo k d J ++ (sqG k d J).take m) := ⟨_, rfl⟩
        rw [← hrows] at HR2
        have HRO := Lib.hid hrows
        clear hrows
        have HG := Lib.hid (gens_mid (k := k) (m := m) HJ1.out)
        have hn1000 : n ≤ 1000 := by rw [← HR2.out.len, HRO.out]; exact Nat.le_trans HG.out.len HML.out
        by_cases hlt : m < nl
        · obtain ⟨adL, A3, n3, c3, x, rfl, hbx, hx, hcx, hr3⟩ := HL2.out.at_ hlt
          have hxm : x ∈ mons k (d - P) := by rw [← HL.out]; exact List.mem_of_getElem? hx.out
          have HXD := Lib.hid ((mons_mem k (d - P) x).1 hxm)
          have hn3 : n3 ≤ 4 := by rw [← hr3.len, mons_each x hxm]; omega
          have D1 := Lib.hid (rdL_single hr3 (Nat.le_refl _))
          have hbs : Below wr.heap.size wr (wr.alloc (.cells #[.slice A3 n3 c3] 41)) := (Below.refl _ _).alloc (Nat.le_refl _) _
          have C1 := Lib.hid (l08Square_any (some ⟨wr.heap.size, 0, none⟩) 1 1 (k + 1) ((d - P : Nat) : Int) (P : Int) [x] _ D1.out (fun y hy => by rw [List.mem_singleton.1 hy]; exact HXD.out) (by omega) (by omega) (by omega) (by omega))
          obtain ⟨g, hg⟩ : ∃ g, g = oddL (sqP [x] (P : Int)) := ⟨_, rfl⟩
          rw [← hg] at C1
          have HGS := Lib.hid (show (sqG k d J).take (m + 1) = (sqG k d J).take m ++ [g] by rw [hg, HP.out]; exact sqG_step (by rw [← HP.out, ← HL.out]; exact hx.out))
          obtain ⟨gl, hgl⟩ : ∃ gl, gl = g.length := ⟨_, rfl⟩
          rw [← hgl] at C1
          have HGL := Lib.hid hgl
          have HGW : Hid (Within (mons k d) g) := Lib.hid ((gens_mid (k := k) (m := m + 1) HJ1.out).all g (by rw [HGS.out]; simp))
          clear hg hgl hxm hr3
          go_wp2_with fail
          refine C1.out.mono ?_
          rintro e w2 ⟨A4, c4, rfl, ho4, hb4⟩
          have hb2 : Below wr.heap.size wr w2 := hbs.trans (hb4.mono hbs.size)
          have R4 := Lib.hid ho4.rd
          have HR4 := Lib.hid (HR2.out.here hb2)
          have HL4 := Lib.hid (rdL_stay HL2.out hb2)
          have HB4 := Lib.hid (HB2.out.trans (hb2.mono HB2.out.size))
          have C2 := Lib.hid (row09_any (mons k d) A A4 n c gl c4 rows g w2 HMS.out HR4.out R4.out (by omega) (by rw [HRO.out]; exact HG.out.rows) HGW.out)
          obtain ⟨t, ht⟩ : ∃ t, t = redT rows g := ⟨_, rfl⟩
          rw [← ht] at C2
          have HT := Lib.hid ht
          have HTW : Hid (Within (mons k d) t) := Lib.hid (by rw [ht]; exact HGW.out.redT fun r hr => by rw [HRO.out] at hr; exact (HG.out.rows r hr).1)
          have HNX := Lib.hid (show rowsP (gensTo k d J ++ (sqG k d J).take (m + 1)) = (if t = [] then rows else putR t rows) by
            rw [HGS.out, ← List.append_assoc, rowsP_snoc, ← HRO.out, ht]; rfl)
          obtain ⟨nt, hnt⟩ : ∃ nt, nt = t.length := ⟨_, rfl⟩
          have hnt2 : nt ≤ 1000000 := by rw [hnt]; exact HTW.out.len HMS.out
          have HNT := Lib.hid hnt
          clear ht hnt hb2 ho4 hb4
          go_wp2_with fail
          refine C2.out.mono ?_
          rintro e w3 ⟨A5, c5, rfl, hr5, hb5⟩
          have R5 := Lib.hid hr5
          have HR5 := Lib.hid (HR4.out.here hb5)
          have HL5 := Lib.hid (rdL_stay HL4.out hb5)
          have HB5 := Lib.hid (HB4.out.trans (hb5.mono HB4.out.size))
          clear hr5 hb5
          rw [← HNT.out] at R5 ⊢
          by_cases hz : nt = 0
          · have HT0 : Hid (t = []) := Lib.hid (List.eq_nil_of_length_eq_zero (by rw [← HNT.out]; exact hz))
            have HNX2 := HNX.out
            rw [if_pos HT0.out] at HNX2
            have HNX2 := Lib.hid HNX2
            go_wp2_with fail
            go_roundw
            case rel => exact ⟨m + 1, n, c, A, by omega, by go_num, rfl, by rw [HNX2.out]; exact HR5, HL5, HB5⟩
            case measure => simp [intOf]; omega
          · have hz2 : ((nt : Int) == 0) = false := by simp; omega
            obtain ⟨p, hp⟩ : ∃ p, nt = p + 1 := ⟨nt - 1, by omega⟩
            have hpn : p < nt := by omega
            have hwk : IntKind.i64.wrap ((nt : Int) - 1) = p := by rw [IntKind.wrap_i64]; omega
            have HTne : Hid (t ≠ []) := Lib.hid (fun e => hz (by rw [HNT.out, e]; rfl))
            obtain ⟨ad5, A6, n6, c6, z, rfl, hbz, hzt, hcz, hr6⟩ := R5.out.at_ hpn
            have hzl : z = lastL t := by
              have := lastL_at (r := t) (m := p) (by rw [← HNT.out]; exact hp)
              rw [hzt.out] at this
              exact Option.some.inj this
            have HZ := Lib.hid hzl
            have hn6 : n6 ≤ 8 := by rw [← hr6.len]; exact HMS.out.each z (HTW.out.sub z (List.mem_of_getElem? hzt.out))
            have R6 := Lib.hid hr6
            have HNX2 := HNX.out
            rw [if_neg HTne.out] at HNX2
            have HNX2 := Lib.hid HNX2
            clear hz hp hzl hr6
            obtain ⟨ps, hps, hv, hrow⟩ := HR5.out
            have HPS := Lib.hid hps
            have HPV := Lib.hid hv
            have HPR := Lib.hid hrow
            have HPL := Lib.hid (show ps.length = n by have := hv.len; simpa using this)
            have ONE := Lib.hid hrow.one
            clear hps hv hrow
            go_wp2_with fail
            go_loopw [10] (fun a wr => ∃ q : Nat, q ≤ n ∧ a = .int .i64 q ∧ Hid (∀ j, j < q → ∀ y, rows[j]? = some y → ltL (lastL t) (lastL y) = true) ∧ Hid (Below w3.heap.size w3 wr)) (fun a _ => n - (intOf a).toNat)
            case atStart => exact ⟨0, Nat.zero_le _, rfl, Lib.hid (fun j hj => absurd hj (by omega)), Lib.hid (Below.refl _ _)⟩
            case round =>
              obtain ⟨q, hq, rfl, HQ, HB3⟩ := hrel
              have hcz3 : wr.cell? (ad5.add p) = some (.slice A6 n6 c6) := (HB3.out.cell (by rw [block_of_add]; exact hbz)).trans hcz
              have ONE2 := Lib.hid (show ∀ u ∈ [Value.slice (some ad5) nt c5] ++ (ps.map (·.1)).drop q, u.oneCell' = true from fun u hu => by
                rcases List.mem_append.1 hu with hu | hu
                · rw [List.mem_singleton.1 hu]; rfl
                · exact ONE.out u (List.mem_of_mem_drop hu))
              have h3 : (q < n ∧ Hid (∀ y, rows[q]? = some y → ltL (lastL t) (lastL y) = true)) ∨ (q < n ∧ Hid (∀ y, rows[q]? = some y → ltL (lastL t) (lastL y) = false)) ∨ ¬ q < n := by
                by_cases hqn : q < n
                · obtain ⟨y, hy⟩ : ∃ y, rows[q]? = some y := ⟨_, List.getElem?_eq_getElem (by rw [HR5.out.len]; exact hqn)⟩
                  cases hb : ltL (lastL t) (lastL y)
                  · exact .inr (.inl ⟨hqn, Lib.hid fun u hu => by rw [hy] at hu; obtain rfl := Option.some.inj hu; exact hb⟩)
                  · exact .inl ⟨hqn, Lib.hid fun u hu => by rw [hy] at hu; obtain rfl := Option.some.inj hu; exact hb⟩
                · exact .inr (.inr hqn)
              rcases h3 with ⟨hqn, hY⟩ | ⟨hqn, hY⟩ | hqn
              · skip
                obtain ⟨adr, A7, n7, c7, y, rfl, hby, hy, hcy, hr7⟩ := (HR5.out.here HB3.out).at_ hqn
                have hyr : y ∈ rows := List.mem_of_getElem? hy.out
                have hyW : Within (mons k d) y ∧ y ≠ [] := by rw [HRO.out] at hyr; exact HG.out.rows y hyr
                have hn7 : n7 ≤ 1000000 := by rw [← hr7.len]; exact hyW.1.len HMS.out
                obtain ⟨p7, hp7⟩ : ∃ p, n7 = p + 1 := ⟨n7 - 1, by
                  have h1 := hr7.len
                  have : y.length ≠ 0 := fun e => hyW.2 (List.eq_nil_of_length_eq_zero e)
                  omega⟩
                have hp7n : p7 < n7 := by omega
                have hwk7 : IntKind.i64.wrap ((n7 : Int) - 1) = p7 := by rw [IntKind.wrap_i64]; omega
                obtain ⟨ad7, A8, n8, c8, z8, rfl, hb8, hz8, hc8, hr8⟩ := hr7.at_ hp7n
                have hzl8 : z8 = lastL y := by
                  have := lastL_at (r := y) (m := p7) (by rw [hr7.len]; exact hp7)
                  rw [hz8.out] at this
                  exact Option.some.inj this
                have hn8 : n8 ≤ 8 := by rw [← hr8.len]; exact HMS.out.each z8 (hyW.1.sub z8 (List.mem_of_getElem? hz8.out))
                have HC := fun W : Nat => Lib.hid (less_any A6 A8 c6 c8 n6 n8 _ _ z z8 (wr.drewN W) ((R6.out.below HB3.out).drewN W) (hr8.drewN W) (by omega) (by omega))
                rw [show ltL z z8 = true by rw [hzl8, HZ.out]; exact hY.out y hy.out] at HC
                clear hyr hyW hp7 hr7 hr8 hzl8
                go_wp2_with fail
                go_quiet ((go_at_call 123; first | exact Calls.quiet_of ((HC _).out) | exact quiet_add ((HC _).out)))
                go_wp2_with fail
                go_roundw
                case rel => exact ⟨q + 1, by omega, by go_num, Lib.hid (fun j hj u hu => by
                  rcases Nat.lt_succ_iff_lt_or_eq.1 hj with h | rfl
                  · exact HQ.out j h u hu
                  · exact hY.out u hu), Lib.hid (below_drewN HB3.out _)⟩
                case measure => simp [intOf]; omega
              · have HEND := hY
                obtain ⟨adr, A7, n7, c7, y, rfl, hby, hy, hcy, hr7⟩ := (HR5.out.here HB3.out).at_ hqn
                have hyr : y ∈ rows := List.mem_of_getElem? hy.out
                have hyW : Within (mons k d) y ∧ y ≠ [] := by rw [HRO.out] at hyr; exact HG.out.rows y hyr
                have hn7 : n7 ≤ 1000000 := by rw [← hr7.len]; exact hyW.1.len HMS.out
                obtain ⟨p7, hp7⟩ : ∃ p, n7 = p + 1 := ⟨n7 - 1, by
                  have h1 := hr7.len
                  have : y.length ≠ 0 := fun e => hyW.2 (List.eq_nil_of_length_eq_zero e)
                  omega⟩
                have hp7n : p7 < n7 := by omega
                have hwk7 : IntKind.i64.wrap ((n7 : Int) - 1) = p7 := by rw [IntKind.wrap_i64]; omega
                obtain ⟨ad7, A8, n8, c8, z8, rfl, hb8, hz8, hc8, hr8⟩ := hr7.at_ hp7n
                have hzl8 : z8 = lastL y := by
                  have := lastL_at (r := y) (m := p7) (by rw [hr7.len]; exact hp7)
                  rw [hz8.out] at this
                  exact Option.some.inj this
                have hn8 : n8 ≤ 8 := by rw [← hr8.len]; exact HMS.out.each z8 (hyW.1.sub z8 (List.mem_of_getElem? hz8.out))
                have HC := fun W : Nat => Lib.hid (less_any A6 A8 c6 c8 n6 n8 _ _ z z8 (wr.drewN W) ((R6.out.below HB3.out).drewN W) (hr8.drewN W) (by omega) (by omega))
                rw [show ltL z z8 = false by rw [hzl8, HZ.out]; exact hY.out y hy.out] at HC
                clear hyr hyW hp7 hr7 hr8 hzl8
                go_wp2_with fail
                go_quiet ((go_at_call 123; first | exact Calls.quiet_of ((HC _).out) | exact quiet_add ((HC _).out)))
                have HPUT := Lib.hid (putR_at (x := t) (rows := rows) (k := q) (by rw [HR5.out.len]; exact hq) HQ.out HEND.out)
                have hs1 := fun W : World => run_sufQ (some adr) n c q hq W
                have hp1 := fun W : World => run_preQ (some adr) n c q (by have := HR5.out.cap; omega) W
                obtain ⟨W, hW⟩ : ∃ W, W = wr.drewN nq := ⟨_, rfl⟩
                rw [← hW]
                have BW := Lib.hid (show Below w3.heap.size w3 W from by rw [hW]; exact below_drewN HB3.out nq)
                have BWa := Lib.hid (BW.out.alloc BW.out.size (.cells #[.slice (some ad5) nt c5] 24))
                have E69 := Lib.hid (ownV_one W (.slice (some ad5) nt c5) 24)
                have P72 := Lib.hid ((HPV.out.suf (m := q) hq).below BWa.out)
                clear hW
                go_wp2_with (first
                  | (at_builtin; refine wpList_appV eltQ3 rfl (.tmp 69) (.tmp 72) rfl rfl rfl E69.out P72.out (fun u hu => ONE.out u (List.mem_of_mem_drop hu)) (by omega) (by decide) (Nat.le_of_lt (E69.out.lt rfl).2) ?_
                     intro A9 c9 w9 hv9 hg9 _
                     have B9 := Lib.hid (BWa.out.grown hg9 BWa.out.size (fun g hg => Nat.le_trans BW.out.size (E69.out.row g hg)))
                     have V9 := Lib.hid hv9
                     have E9 := Lib.hid (ownV_empty w9 w9.heap.size 24 (Nat.le_refl _))
                     have G9 := Lib.hid ((Below.refl w9.heap.size w9).alloc (Nat.le_refl _) (.cells #[] 24))
                     have P9 := Lib.hid (((HPV.out.pre hq).below B9.out).below (G9.out.mono B9.out.size))
                     clear hv9 hg9)
                  | (at_builtin; refine wpList_appV eltQ3 rfl (.tmp 74) (.tmp 77) rfl rfl rfl E9.out P9.out (fun u hu => ONE.out u (List.mem_of_mem_take hu)) (by omega) (by decide) (Nat.le_of_lt (E9.out.lt rfl).2) ?_
                     intro A10 c10 w10 hv10 hg10 _
                     rw [Nat.zero_add, List.nil_append] at hv10
                     have G10 := Lib.hid (G9.out.grown hg10 G9.out.size E9.out.row)
                     have V10 := Lib.hid hv10
                     have P10 := Lib.hid (V9.out.rd.below G10.out)
                     clear hv10 hg10)
                  | (at_builtin; refine wpList_appV eltQ3 rfl (.tmp 78) (.tmp 79) rfl rfl rfl V10.out P10.out ONE2.out (by omega) (by decide) G10.out.size ?_
                     intro A11 c11 w11 hv11 hg11 _
                     have G11 := Lib.hid (G10.out.grown hg11 G10.out.size V10.out.row)
                     have V11 := Lib.hid hv11
                     clear hv11 hg11))
                have B11 := Lib.hid (B9.out.trans (G11.out.mono B9.out.size))
                have RC11 : Hid (RdC w11 w11.heap.size A11 (q + (1 + (n - q))) c11 (putR t rows)) := Lib.hid ⟨ps.take q ++ (.slice (some ad5) nt c5, t) :: ps.drop q, by rw [HPUT.out, ← HPS.out]; simp [List.map_take, List.map_drop],
                  by have := V11.out.rd; simpa [List.map_take, List.map_drop] using this,
                  fun u hu => by
                    rcases List.mem_append.1 hu with hu | hu
                    · exact ((HPR.out.below B11.out).mono B11.out.size) u (List.mem_of_mem_take hu)
                    · rcases List.mem_cons.1 hu with rfl | hu
                      · exact ⟨_, _, _, rfl, (R5.out.below B11.out).mono B11.out.size⟩
                      · exact ((HPR.out.below B11.out).mono B11.out.size) u (List.mem_of_mem_drop hu)⟩
                have HL11 := Lib.hid (rdL_stay HL5.out B11.out)
                have HB11 := Lib.hid (HB5.out.trans (B11.out.mono HB5.out.size))
                go_wp2_with fail
                go_roundw
                case rel => exact ⟨m + 1, _, _, _, by omega, by go_num, rfl, by rw [HNX2.out]; simpa using RC11, HL11, HB11⟩
                case measure => simp [intOf]; omega
              · have HEND := Lib.hid (show ∀ y, rows[q]? = some y → ltL (lastL t) (lastL y) = false from fun y hy => by
                  have := (List.getElem?_eq_some_iff.1 hy).1
                  rw [HR5.out.len] at this
                  exact absurd this hqn)
                go_wp2_with fail
                go_quiet (fail)
                have HPUT := Lib.hid (putR_at (x := t) (rows := rows) (k := q) (by rw [HR5.out.len]; exact hq) HQ.out HEND.out)
                have hs1 := fun W : World => run_sufQ A n c q hq W
                have hp1 := fun W : World => run_preQ A n c q (by have := HR5.out.cap; omega) W
                obtain ⟨W, hW⟩ : ∃ W, W = wr.drewN nq := ⟨_, rfl⟩
                rw [← hW]
                have BW := Lib.hid (show Below w3.heap.size w3 W from by rw [hW]; exact below_drewN HB3.out nq)
                have BWa := Lib.hid (BW.out.alloc BW.out.size (.cells #[.slice (some ad5) nt c5] 24))
                have E69 := Lib.hid (ownV_one W (.slice (some ad5) nt c5) 24)
                have P72 := Lib.hid ((HPV.out.suf (m := q) hq).below BWa.out)
                clear hW
                go_wp2_with (first
                  | (at_builtin; refine wpList_appV eltQ3 rfl (.tmp 69) (.tmp 72) rfl rfl rfl E69.out P72.out (fun u hu => ONE.out u (List.mem_of_mem_drop hu)) (by omega) (by decide) (Nat.le_of_lt (E69.out.lt rfl).2) ?_
                     intro A9 c9 w9 hv9 hg9 _
                     have B9 := Lib.hid (BWa.out.grown hg9 BWa.out.size (fun g hg => Nat.le_trans BW.out.size (E69.out.row g hg)))
                     have V9 := Lib.hid hv9
                     have E9 := Lib.hid (ownV_empty w9 w9.heap.size 24 (Nat.le_refl _))
                     have G9 := Lib.hid ((Below.refl w9.heap.size w9).alloc (Nat.le_refl _) (.cells #[] 24))
                     have P9 := Lib.hid (((HPV.out.pre hq).below B9.out).below (G9.out.mono B9.out.size))
                     clear hv9 hg9)
                  | (at_builtin; refine wpList_appV eltQ3 rfl (.tmp 74) (.tmp 77) rfl rfl rfl E9.out P9.out (fun u hu => ONE.out u (List.mem_of_mem_take hu)) (by omega) (by decide) (Nat.le_of_lt (E9.out.lt rfl).2) ?_
                     intro A10 c10 w10 hv10 hg10 _
                     rw [Nat.zero_add, List.nil_append] at hv10
                     have G10 := Lib.hid (G9.out.grown hg10 G9.out.size E9.out.row)
                     have V10 := Lib.hid hv10
                     have P10 := Lib.hid (V9.out.rd.below G10.out)
                     clear hv10 hg10)
                  | (at_builtin; refine wpList_appV eltQ3 rfl (.tmp 78) (.tmp 79) rfl rfl rfl V10.out P10.out ONE2.out (by omega) (by decide) G10.out.size ?_
                     intro A11 c11 w11 hv11 hg11 _
                     have G11 := Lib.hid (G10.out.grown hg11 G10.out.size V10.out.row)
                     have V11 := Lib.hid hv11
                     clear hv11 hg11))
                have B11 := Lib.hid (B9.out.trans (G11.out.mono B9.out.size))
                have RC11 : Hid (RdC w11 w11.heap.size A11 (q + (1 + (n - q))) c11 (putR t rows)) := Lib.hid ⟨ps.take q ++ (.slice (some ad5) nt c5, t) :: ps.drop q, by rw [HPUT.out, ← HPS.out]; simp [List.map_take, List.map_drop],
                  by have := V11.out.rd; simpa [List.map_take, List.map_drop] using this,
                  fun u hu => by
                    rcases List.mem_append.1 hu with hu | hu
                    · exact ((HPR.out.below B11.out).mono B11.out.size) u (List.mem_of_mem_take hu)
                    · rcases List.mem_cons.1 hu with rfl | hu
                      · exact ⟨_, _, _, rfl, (R5.out.below B11.out).mono B11.out.size⟩
                      · exact ((HPR.out.below B11.out).mono B11.out.size) u (List.mem_of_mem_drop hu)⟩
                have HL11 := Lib.hid (rdL_stay HL5.out B11.out)
                have HB11 := Lib.hid (HB5.out.trans (B11.out.mono HB5.out.size))
                go_wp2_with fail
                go_roundw
                case rel => exact ⟨m + 1, _, _, _, by omega, by go_num, rfl, by rw [HNX2.out]; simpa using RC11, HL11, HB11⟩
                case measure => simp [intOf]; omega
        · have hmn : m = nl := by omega
          have HNX := Lib.hid (show rows = rowsP (gensTo k d (J + 1)) by rw [HRO.out, gensTo_succ, List.take_of_length_le (by rw [sqG_len, ← HP.out, ← HL.out, ← HNL.out, hmn]; exact Nat.le_refl _)])
          clear hmn
          go_wp2_with fail
          go_roundw
          case rel => exact ⟨J + 1, 2 * P, n, c, A, by go_num, rfl, Lib.hid (by rw [HP.out, Nat.pow_succ]; omega), HJ1, by omega, by omega, by rw [← HNX.out]; exact HR2, HB2⟩
          case measure => simp [intOf]; omega
    · have HE := Lib.hid (show J = hitJ d from hitJ_of HJ.out (by rw [← HP.out]; have := Hdd.out; omega))
      go_wp2_with fail
      rw [HRR.out]
      exact RetRC.mk HR.out (by rw [HE.out]; rfl) HB.out
end Go.Proofs.YtoodhbafleemjaaGreat
