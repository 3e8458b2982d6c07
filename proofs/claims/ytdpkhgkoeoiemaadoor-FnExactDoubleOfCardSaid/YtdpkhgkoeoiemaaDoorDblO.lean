/- DoubleOf on both sides. -/
import Derived.Test.YtdpkhgkoeoiemaaDoorDblI
import Derived.Test.YtdpkhgkoeoiemaaDoorLawK
import Derived.Lib.QuietBelow
namespace Go.Proofs.YtdpkhgkoeoiemaaDoor
open Go.RowKit
set_option linter.unusedVariables false

/-- the answers of DoubleOf -/
def DblA (ds : List Int) (act : List (List Int)) (n : Nat) (v : List Int) (L : List Int) (k : Int) : Prop :=
  (modB ds act = false ∧ L = [] ∧ k = 1) ∨
  (modB ds act = true ∧ vecB n v = false ∧ L = [] ∧ k = 2) ∨
  ∃ x, modB ds act = true ∧ v.length = n ∧ x < 2 ^ n ∧ v = vecF x n ∧
    ((¬ Hm ds x (dgT ds x n) ∧ L = [] ∧ k = 2) ∨
     (Hm ds x (dgT ds x n) ∧ ufL ds (act.map toT) ≠ [] ∧ L = [] ∧ k = 5) ∨
     (Hm ds x (dgT ds x n) ∧ ufL ds (act.map toT) = [] ∧ L = vecF (spA (act.map toT) (dgT ds x n).toNat x) n ∧ k = 0))
theorem dbl_ex (ds : List Int) (act : List (List Int)) (n : Nat) (v : List Int) : ∃ L k, DblA ds act n v L k := by
  cases hm : modB ds act
  · exact ⟨_, _, .inl ⟨hm, rfl, rfl⟩⟩
  · cases hv : vecB n v
    · exact ⟨_, _, .inr (.inl ⟨hm, hv, rfl, rfl⟩)⟩
    · obtain ⟨hl, x, hx, he⟩ := vecB_ex hv
      by_cases h1 : Hm ds x (dgT ds x n)
      · by_cases h2 : ufL ds (act.map toT) = []
        · exact ⟨_, _, .inr (.inr ⟨x, hm, hl, hx, he, .inr (.inr ⟨h1, h2, rfl, rfl⟩)⟩)⟩
        · exact ⟨_, _, .inr (.inr ⟨x, hm, hl, hx, he, .inr (.inl ⟨h1, h2, rfl, rfl⟩)⟩)⟩
      · exact ⟨_, _, .inr (.inr ⟨x, hm, hl, hx, he, .inl ⟨h1, rfl, rfl⟩⟩)⟩
theorem vecB_of {n x : Nat} : vecB n (vecF x n) = true := by
  unfold vecB
  rw [Bool.and_eq_true]
  refine ⟨decide_eq_true (by unfold vecF; simp), ?_⟩
  rw [List.all_eq_true]
  intro z hz
  unfold vecF at hz
  obtain ⟨i, _, rfl⟩ := List.mem_map.1 hz
  rcases bitV_cases x i with h | h <;> rw [h] <;> decide
theorem nilSn (a : Option Addr) (n c n' c' : Nat) (W : World) : (binOp .neq 22 (.slice a n c) (.slice none n' c')).run Tryd.prog W = .ok (.bool (!a.isNone)) W := by
  simp only [binOp]
  simp [Op.equal, Op.maxDepth, Lib.run_equalIn_slice_nil W 9999 _ _ a n c n' c' Tryd.underlying22]
theorem xorN_nought (f : Nat → Nat) : ∀ n : Nat, xorN n (pickF 0 f) = 0
  | 0 => rfl
  | n + 1 => by
    show xorN n (pickF 0 f) ^^^ pickF 0 f n = 0
    rw [xorN_nought f n, pickF_no (by simp)]; rfl
theorem TriF.nought {ds : List Int} {T : List Tri} (h : TriF ds T) (k : Nat) : spA T k 0 = 0 := by
  rw [← h.sq (Nat.two_pow_pos _)]
  unfold sqF
  exact xorN_nought _ _
theorem two16 {x n : Nat} (hx : x < 2 ^ n) (hn : n ≤ 16) : x < 65536 := by
  have h2 : (2 : Nat) ^ n ≤ 2 ^ 16 := Nat.pow_le_pow_right (by decide) hn
  have e : (2 : Nat) ^ 16 = 65536 := by decide
  omega
theorem dg_bound {ds : List Int} {x n : Nat} (h : ∀ d ∈ ds, 0 ≤ d ∧ d ≤ 20) : 0 ≤ dgT ds x n ∧ dgT ds x n ≤ 20 := by
  rcases dgT_ex (ds := ds) (x := x) (k := n) with ⟨a, _⟩ | ⟨i, _, _, c⟩
  · rw [a]; decide
  · rw [c]
    cases hi : ds[i]? with
    | none => decide
    | some d => exact h d (List.mem_of_getElem? hi)

set_option maxRecDepth 100000 in
set_option maxHeartbeats 4000000 in
theorem sDoubleOf_any (A1 A2 A : Option Addr) (n1 c1 n2 c2 n c : Nat) (ds : List Int) (act : List (List Int)) (v L : List Int) (k : Int) (w : World) (h : RdMod w A1 n1 c1 ds A2 n2 c2 act) (hv : RdS w w.heap.size A n c v) (hn1 : n1 ≤ 2000000) (hn2 : n2 ≤ 2000000) (ht : totalL act ≤ 2000000) (hn : n ≤ 2000000)
    (hA : DblA ds act n1 v L k) : Calls Tryd.prog 5 #[.agg #[.slice A1 n1 c1, .slice A2 n2 c2], .slice A n c] w (RetSC L.length L k w) := by
  obtain ⟨w0, b, hw0, hbe, hb0, hz0', hF⟩ := start1 w (.slice A1 n1 c1) (.slice A2 n2 c2) 29
  have H := Lib.hid (h.below hb0)
  have HV := Lib.hid ((hv.below hb0).mono hb0.size)
  have Hw := Lib.hid hw0
  have Hbe := Lib.hid hbe
  have Hb0 := Lib.hid hb0
  have F0 := Lib.hid hF
  have HL1 := Lib.hid h.ds.len
  have HLv := Lib.hid hv.len
  have k0 := hF.at_ (b := b) (o := 0) (V := .slice A1 n1 c1) (by simp)
  have k1 := hF.at_ (b := b) (o := 1) (V := .slice A2 n2 c2) (by simp)
  have C1 := Lib.hid (l11Is_any A1 A2 n1 c1 n2 c2 ds act w0 H.out hn1 hn2 ht)
  have C2 := fun (W : World) (hB : Below w0.heap.size w0 W) => Lib.hid (vector11_any A1 A2 A n1 c1 n2 c2 n c v W ((HV.out.below hB).mono hB.size) hn hn1)
  obtain ⟨R, hR⟩ : ∃ R, R = RetSC L.length L k w := ⟨_, rfl⟩
  have HR := Lib.hid hR
  rw [← hR]
  clear h hv hw0 hbe hb0 hF hR ht hz0'
  rcases hA with ⟨hm, rfl, rfl⟩ | ⟨hm, hvb, rfl, rfl⟩ | ⟨x, hm, hlv, hx, rfl, hA⟩
  · rw [hm] at C1
    clear hm
    go_enter Tryd.func5, Tryd.ntmps5
    go_wp2_with fail
    rw [← Hw.out, ← Hbe.out]
    go_wp2_with fail
    refine C1.out.mono ?_
    rintro e w1 ⟨rfl, hb1⟩
    have X1 := Lib.hid (Hb0.out.trans (hb1.mono Hb0.out.size))
    clear hb1
    go_wp2_with fail
    rw [HR.out]
    exact RetSC.none rfl X1.out
  · rw [hm] at C1
    rw [hvb] at C2
    clear hm hvb
    go_enter Tryd.func5, Tryd.ntmps5
    go_wp2_with fail
    rw [← Hw.out, ← Hbe.out]
    go_wp2_with fail
    refine C1.out.mono ?_
    rintro e w1 ⟨rfl, hb1⟩
    have X1 := Lib.hid hb1
    have k2 := (F0.out.below X1.out).at_ (b := b) (o := 0) (V := .slice A1 n1 c1) (by simp)
    have k3 := (F0.out.below X1.out).at_ (b := b) (o := 1) (V := .slice A2 n2 c2) (by simp)
    clear hb1 k0 k1
    go_wp2_with fail
    refine (C2 w1 X1.out).out.mono ?_
    rintro e w2 ⟨rfl, hb2⟩
    have X2 := Lib.hid (Hb0.out.trans ((X1.out.trans (hb2.mono X1.out.size)).mono Hb0.out.size))
    clear hb2
    go_wp2_with fail
    rw [HR.out]
    exact RetSC.none rfl X2.out
  · obtain rfl : n = n1 := by rw [← HLv.out]; exact hlv
    rw [hm] at C1
    rw [vecB_of] at C2
    have HTF := Lib.hid (modB_tabF hm)
    have HST := Lib.hid (modB_stem hm)
    have hn6 : n ≤ 16 := by rw [← HL1.out]; exact HTF.out.len
    have hx6 : x < 65536 := two16 hx hn6
    have HX := Lib.hid hx
    have HAA := Lib.hid hA
    clear hm hlv hx hA
    go_enter Tryd.func5, Tryd.ntmps5
    go_wp2_with fail
    rw [← Hw.out, ← Hbe.out]
    go_wp2_with fail
    refine C1.out.mono ?_
    rintro e w1 ⟨rfl, hb1⟩
    have X1 := Lib.hid hb1
    have k2 := (F0.out.below X1.out).at_ (b := b) (o := 0) (V := .slice A1 n c1) (by simp)
    have k3 := (F0.out.below X1.out).at_ (b := b) (o := 1) (V := .slice A2 n2 c2) (by simp)
    clear hb1 k0 k1
    go_wp2_with fail
    refine (C2 w1 X1.out).out.mono ?_
    rintro e w2 ⟨rfl, hb2⟩
    have X2 := Lib.hid (X1.out.trans (hb2.mono X1.out.size))
    clear hb2 k2 k3 C1 C2
    have C3 := Lib.hid (mask12_any x n A c _ w2 ((HV.out.below X2.out).mono X2.out.size) HX.out hn6)
    go_wp2_with fail
    refine C3.out.mono ?_
    rintro e w3 ⟨rfl, h3⟩
    rw [h3]
    clear h3 C3
    have HV2 := Lib.hid (HV.out.below X2.out)
    have HD2 := Lib.hid (H.out.below X2.out).ds
    have k0 := (F0.out.below X2.out).at_ (b := b) (o := 0) (V := .slice A1 n c1) (by simp)
    have k1 := (F0.out.below X2.out).at_ (b := b) (o := 1) (V := .slice A2 n2 c2) (by simp)
    go_wp2_with fail
    go_loop [7, 8] (fun d i => ∃ (j : Nat) (y : Int), j ≤ n ∧ i = .int .i64 j ∧ d = .int .i64 y ∧ Hid (y = dgT ds x j)) (fun _ i => n - (intOf i).toNat)
    case atStart => exact ⟨0, 0, Nat.zero_le _, rfl, rfl, Lib.hid rfl⟩
    case round =>
      obtain ⟨j, y, hj, rfl, rfl, HY⟩ := hrel
      by_cases hlt : j < n
      · obtain ⟨adv, z, rfl, _, hz, hcz⟩ := HV2.out.at_ hlt
        have hz' : z = bitV x j := by have := hz.out; rw [vecF_at hlt] at this; exact (Option.some.inj this).symm
        obtain ⟨add, f, rfl, _, hf, hcf⟩ := HD2.out.at_ hlt
        have HF := Lib.hid (show ds[j]?.getD 0 = f from by rw [hf.out]; rfl)
        have hlt' : (j : Int) < (n : Int) := by omega
        have hj0 : (0 : Int) ≤ (j : Int) := by omega
        clear hz hf
        by_cases hb : x.testBit j = true
        · rw [bitV_yes hb] at hz'
          subst hz'
          have HY2 := Lib.hid (show f = dgT ds x (j + 1) from by rw [dgT, if_pos hb, HF.out])
          clear hb HY
          go_wp2_with fail
          go_round
          case rel => exact ⟨j + 1, f, by omega, by go_num, rfl, HY2⟩
          case measure => simp [intOf]; omega
        · rw [bitV_no hb] at hz'
          subst hz'
          have HY2 := Lib.hid (show y = dgT ds x (j + 1) from by rw [dgT, if_neg hb]; exact HY.out)
          clear hb HY
          go_wp2_with fail
          go_round
          case rel => exact ⟨j + 1, y, by omega, by go_num, rfl, HY2⟩
          case measure => simp [intOf]; omega
      · obtain rfl : j = n := by omega
        have hyb := dg_bound (x := x) (n := j) HST.out
        rw [← HY.out] at hyb
        obtain ⟨d, rfl⟩ : ∃ d : Nat, y = (d : Int) := ⟨y.toNat, by omega⟩
        have C4 := Lib.hid (spec.l12Degree_any A1 A2 j c1 n2 c2 (d : Int) ds w2 HD2.out hn6)
        have hA := HAA.out
        rw [← HY.out] at hA
        have hz0 := anN_zero (ds := ds) (d := (d : Int)) HX.out
        have hm6 : degM ds (d : Int) j < 65536 := two16 degM_lt hn6
        obtain ⟨m, hm⟩ : ∃ m, m = degM ds (d : Int) j := ⟨_, rfl⟩
        rw [← hm] at C4 hz0 hm6
        have hand := bits_anN (a := x) (b := m) (by omega) (by omega)
        obtain ⟨z, hz⟩ : ∃ z, z = anN x m := ⟨_, rfl⟩
        rw [← hz] at hand hz0
        clear hm hz HY hlt
        by_cases hzz : z = 0
        · have hHm := hz0.1 hzz
          subst hzz
          clear hz0
          have C5 := fun (W : World) (hB : Below w2.heap.size w2 W) => Lib.hid (fault17_any A1 A2 j c1 n2 c2 ds act W (H.out.below (X2.out.trans (hB.mono X2.out.size))) HTF.out hn2)
          obtain ⟨xs, hxs⟩ : ∃ xs, xs = ufL ds (act.map toT) := ⟨_, rfl⟩
          rw [← hxs] at C5 hA
          clear hxs
          go_wp2_with fail
          refine C4.out.mono ?_
          rintro e w3 ⟨rfl, hb3⟩
          have X3 := Lib.hid hb3
          have k2 := (F0.out.below (X2.out.trans (hb3.mono X2.out.size))).at_ (b := b) (o := 0) (V := .slice A1 j c1) (by simp)
          have k3 := (F0.out.below (X2.out.trans (hb3.mono X2.out.size))).at_ (b := b) (o := 1) (V := .slice A2 n2 c2) (by simp)
          clear hb3 k0 k1
          go_wp2_with fail
          refine (C5 w3 X3.out).out.mono ?_
          rintro e w4 ⟨A4, c4, rfl, ho4, hA4, hb4⟩
          have X4 := Lib.hid (X2.out.trans ((X3.out.trans (hb4.mono X3.out.size)).mono X2.out.size))
          clear ho4 hb4 hA4 k2 k3
          by_cases hxe : xs = []
          · subst hxe
            obtain ⟨hL, rfl⟩ : L = vecF (spA (act.map toT) d x) j ∧ k = 0 := by
              rcases hA with ⟨a, _⟩ | ⟨_, a, _⟩ | ⟨_, _, a, e⟩
              · exact absurd hHm a
              · exact absurd rfl a
              · exact ⟨by rw [a]; rfl, e⟩
            have HL := Lib.hid hL
            have k4 := (F0.out.below X4.out).at_ (b := b) (o := 0) (V := .slice A1 j c1) (by simp)
            have k5 := (F0.out.below X4.out).at_ (b := b) (o := 1) (V := .slice A2 n2 c2) (by simp)
            have C6 := Lib.hid (act12_any A1 A2 j c1 n2 c2 d x ds act w4 (H.out.below X4.out) HTF.out hn2 HX.out)
            have hs := HTF.out.tri.spA_lt (k := d) (v := x) (by rw [HL1.out]; exact HX.out)
            rw [HL1.out] at hs
            have hs6 := two16 hs hn6
            obtain ⟨s, hss⟩ : ∃ s, s = spA (act.map toT) d x := ⟨_, rfl⟩
            rw [← hss] at C6 HL hs6
            clear hA hHm hL hs hss
            go_wp2_with fail
            refine C6.out.mono ?_
            rintro e w5 ⟨rfl, hb5⟩
            have X5 := Lib.hid (Hb0.out.trans ((X4.out.trans (hb5.mono X4.out.size)).mono Hb0.out.size))
            have C7 := Lib.hid (vector12_any s j w5 hs6 hn6)
            clear hb5 k4 k5 C6
            go_wp2_with fail
            refine C7.out.mono ?_
            rintro e w6 ⟨A6, c6, rfl, ho6, hb6⟩
            have HO := Lib.hid (ho6.mono X5.out.size)
            have X6 := Lib.hid (X5.out.trans (hb6.mono X5.out.size))
            clear ho6 hb6
            go_wp2_with fail
            rw [HR.out]
            exact RetSC.mk rfl (by rw [HL.out]; unfold vecF; simp) HO.out HL.out.symm X6.out
          · obtain ⟨rfl, rfl⟩ : L = [] ∧ k = 5 := by
              rcases hA with ⟨a, _⟩ | ⟨_, _, a, e⟩ | ⟨_, a, _⟩
              · exact absurd hHm a
              · exact ⟨a, e⟩
              · exact absurd a hxe
            obtain ⟨l, hl⟩ : ∃ l, l = xs.length := ⟨_, rfl⟩
            have hl0 : 0 < l := by rw [hl]; exact List.length_pos_iff.2 hxe
            rw [← hl]
            have hk3 : (0 : Int) < (l : Int) := by omega
            clear hA hHm hxe hl
            go_wp2_with fail
            rw [HR.out]
            exact RetSC.none rfl (Hb0.out.trans (X4.out.mono Hb0.out.size))
        · obtain ⟨rfl, rfl⟩ : L = [] ∧ k = 2 := by
            rcases hA with ⟨_, a, e⟩ | ⟨a, _⟩ | ⟨a, _⟩
            · exact ⟨a, e⟩
            · exact absurd (hz0.2 a) hzz
            · exact absurd (hz0.2 a) hzz
          have hs1 : ((z : Int) == 0) = false := by simp; omega
          have hs2 : ((z : Int) != 0) = true := by simp; omega
          have hs3 : (z == 0) = false := by simp; omega
          clear hA hz0 hzz
          go_wp2_with fail
          refine C4.out.mono ?_
          rintro e w3 ⟨rfl, hb3⟩
          have X3 := Lib.hid (Hb0.out.trans ((X2.out.trans (hb3.mono X2.out.size)).mono Hb0.out.size))
          clear hb3 k0 k1
          go_wp2_with fail
          rw [HR.out]
          exact RetSC.none rfl X3.out

set_option maxRecDepth 100000 in
set_option maxHeartbeats 4000000 in
theorem iDoubleOf_any (A1 A2 A : Option Addr) (n1 c1 n2 c2 n c : Nat) (ds : List Int) (act : List (List Int)) (v L : List Int) (k : Int) (w : World) (hT : Deb w) (h : RdMod w A1 n1 c1 ds A2 n2 c2 act) (hv : RdS w w.heap.size A n c v) (hn1 : n1 ≤ 2000000) (hn2 : n2 ≤ 2000000) (ht : totalL act ≤ 2000000) (hn : n ≤ 2000000)
    (hA : DblA ds act n1 v L k) : Calls Tryd.prog 8 #[.agg #[.slice A1 n1 c1, .slice A2 n2 c2], .slice A n c] w (RetSC L.length L k w) := by
  obtain ⟨w0, b, hw0, hbe, hb0, hz0', hF⟩ := start1 w (.slice A1 n1 c1) (.slice A2 n2 c2) 29
  have H := Lib.hid (h.below hb0)
  have HV := Lib.hid ((hv.below hb0).mono hb0.size)
  have HT0 := Lib.hid (hT.below hb0)
  have Hw := Lib.hid hw0
  have Hbe := Lib.hid hbe
  have Hb0 := Lib.hid hb0
  have F0 := Lib.hid hF
  have HL1 := Lib.hid h.ds.len
  have HLv := Lib.hid hv.len
  have k0 := hF.at_ (b := b) (o := 0) (V := .slice A1 n1 c1) (by simp)
  have k1 := hF.at_ (b := b) (o := 1) (V := .slice A2 n2 c2) (by simp)
  have C1 := Lib.hid (acted_any A1 A2 A n1 c1 n2 c2 n c ds act v w0 H.out HV.out hn1 hn2 ht hn)
  obtain ⟨R, hR⟩ : ∃ R, R = RetSC L.length L k w := ⟨_, rfl⟩
  have HR := Lib.hid hR
  rw [← hR]
  have hnil := fun (a : Option Addr) (n c n' c' : Nat) (W : World) => nilSn a n c n' c' W
  clear h hv hw0 hbe hb0 hF hR ht hz0' hT
  rcases hA with ⟨hm, rfl, rfl⟩ | ⟨hm, hvb, rfl, rfl⟩ | ⟨x, hm, hlv, hx, rfl, hA⟩
  · rw [hm, if_neg (by decide)] at C1
    clear hm
    go_enter Tryd.func8, Tryd.ntmps8
    go_wp2_with fail
    rw [← Hw.out, ← Hbe.out]
    go_wp2_with fail
    refine C1.out.mono ?_
    rintro e w1 ⟨rfl, hb1⟩
    have X1 := Lib.hid (Hb0.out.trans (hb1.mono Hb0.out.size))
    clear hb1
    go_wp2_with fail
    rw [HR.out]
    exact RetSC.none rfl X1.out
  · rw [hm, hvb, if_pos rfl, if_neg (by decide)] at C1
    clear hm hvb
    go_enter Tryd.func8, Tryd.ntmps8
    go_wp2_with fail
    rw [← Hw.out, ← Hbe.out]
    go_wp2_with fail
    refine C1.out.mono ?_
    rintro e w1 ⟨rfl, hb1⟩
    have X1 := Lib.hid (Hb0.out.trans (hb1.mono Hb0.out.size))
    clear hb1
    go_wp2_with fail
    rw [HR.out]
    exact RetSC.none rfl X1.out
  · obtain rfl : n = n1 := by rw [← HLv.out]; exact hlv
    rw [hm, vecB_of, if_pos rfl, if_pos rfl] at C1
    have HTF := Lib.hid (modB_tabF hm)
    have HST := Lib.hid (modB_stem hm)
    have hn6 : n ≤ 16 := by rw [← HL1.out]; exact HTF.out.len
    have hx6 : x < 65536 := two16 hx hn6
    have HX := Lib.hid hx
    have HAA := Lib.hid hA
    -- the end, behind the degree d: as the walk comes to region 7 in a world w2
    have C3 := fun (W : World) (hB : Below w0.heap.size w0 W) => Lib.hid (maskOf_any x n A c _ W ((HV.out.below hB).mono hB.size) HX.out hn6)
    have hyb := dg_bound (x := x) (n := n) HST.out
    have hHH := hm_both (ds := ds) HX.out hn6
    have hSame := fun h => dg_same (ds := ds) HX.out hn6 h
    clear hm hlv hx hA
    go_enter Tryd.func8, Tryd.ntmps8
    go_wp2_with fail
    rw [← Hw.out, ← Hbe.out]
    go_wp2_with fail
    refine C1.out.mono ?_
    rintro e w1 ⟨rfl, hb1⟩
    have X1 := Lib.hid hb1
    clear hb1 k0 k1 C1
    go_wp2_with fail
    refine (C3 w1 X1.out).out.mono ?_
    rintro e w1' ⟨rfl, h3⟩
    rw [h3]
    clear h3 C3
    have k0 := (F0.out.below X1.out).at_ (b := b) (o := 0) (V := .slice A1 n c1) (by simp)
    have k1 := (F0.out.below X1.out).at_ (b := b) (o := 1) (V := .slice A2 n2 c2) (by simp)
    have HT1 := Lib.hid (HT0.out.below X1.out)
    have HD1 := Lib.hid (H.out.below X1.out).ds
    by_cases hx0 : x = 0
    · subst hx0
      have hm6 : degM ds 0 n < 65536 := two16 degM_lt hn6
      have C4 := Lib.hid (impl.inDegree_any A1 A2 n c1 n2 c2 0 ds w1 HD1.out hn6)
      obtain ⟨m, hm⟩ : ∃ m, m = degM ds 0 n := ⟨_, rfl⟩
      rw [← hm] at C4 hm6
      have hand : bits .andNot .i64 0 (m : Int) = 0 := by
        have := bits_anN (a := 0) (b := m) (by omega) (by omega)
        simpa [anN] using this
      have hHm : Hm ds 0 (dgT ds 0 n) := fun i hi => by simp at hi
      have hA := HAA.out
      rw [HTF.out.tri.nought] at hA
      have C5 := fun (W : World) (hB : Below w1.heap.size w1 W) => Lib.hid (unsFault_any A1 A2 n c1 n2 c2 ds act W (H.out.below (X1.out.trans (hB.mono X1.out.size))) HTF.out hn2)
      obtain ⟨xs, hxs⟩ : ∃ xs, xs = ufL ds (act.map toT) := ⟨_, rfl⟩
      rw [← hxs] at C5 hA
      clear hxs hm hHH hSame
      go_wp2_with fail
      refine C4.out.mono ?_
      rintro e w3 ⟨rfl, hb3⟩
      have X3 := Lib.hid hb3
      have k2 := (F0.out.below (X1.out.trans (hb3.mono X1.out.size))).at_ (b := b) (o := 0) (V := .slice A1 n c1) (by simp)
      have k3 := (F0.out.below (X1.out.trans (hb3.mono X1.out.size))).at_ (b := b) (o := 1) (V := .slice A2 n2 c2) (by simp)
      clear hb3 k0 k1
      go_wp2_with fail
      refine (C5 w3 X3.out).out.mono ?_
      rintro e w4 ⟨A4, c4, rfl, ho4, hA4, hb4⟩
      have X4 := Lib.hid (X1.out.trans ((X3.out.trans (hb4.mono X3.out.size)).mono X1.out.size))
      clear ho4 hb4 k2 k3
      by_cases hxe : xs = []
      · subst hxe
        obtain rfl : A4 = none := by cases A4 <;> simp at hA4 ⊢
        obtain ⟨hL, rfl⟩ : L = vecF 0 n ∧ k = 0 := by
          rcases hA with ⟨a, _⟩ | ⟨_, a, _⟩ | ⟨_, _, a, e⟩
          · exact absurd hHm a
          · exact absurd rfl a
          · exact ⟨a, e⟩
        have HL := Lib.hid hL
        have k4 := (F0.out.below X4.out).at_ (b := b) (o := 0) (V := .slice A1 n c1) (by simp)
        have k5 := (F0.out.below X4.out).at_ (b := b) (o := 1) (V := .slice A2 n2 c2) (by simp)
        have C6 := Lib.hid (vectorOf_any A1 A2 n c1 n2 c2 0 w4 (by decide) hn6)
        clear hA hHm hL hA4
        go_wp2_with fail
        refine C6.out.mono ?_
        rintro e w7 ⟨A7, c7, rfl, ho7, hb7⟩
        have X7 := Lib.hid (X4.out.trans (hb7.mono X4.out.size))
        have HO := Lib.hid (ho7.mono (Nat.le_trans Hb0.out.size X4.out.size))
        clear ho7 hb7
        go_wp2_with fail
        rw [HR.out]
        exact RetSC.mk rfl (by rw [HL.out]; unfold vecF; simp) HO.out HL.out.symm (Hb0.out.trans (X7.out.mono Hb0.out.size))
      · obtain ⟨rfl, rfl⟩ : L = [] ∧ k = 5 := by
          rcases hA with ⟨a, _⟩ | ⟨_, _, a, e⟩ | ⟨_, a, _⟩
          · exact absurd hHm a
          · exact ⟨a, e⟩
          · exact absurd a hxe
        obtain ⟨g, rfl⟩ : ∃ g, A4 = some g := by
          cases A4 with
          | none => exact absurd (by simpa using hA4.symm) hxe
          | some g => exact ⟨g, rfl⟩
        clear hA hHm hxe hA4
        go_wp2_with fail
        rw [HR.out]
        exact RetSC.none rfl (Hb0.out.trans (X4.out.mono Hb0.out.size))
    · have hct : Lib.ctz 64 x < n := bit_lt HX.out (ctz_bit hx0 (by omega))
      have HF := Lib.hid (show dgF ds x = ds[Lib.ctz 64 x]?.getD 0 from by unfold dgF; rw [if_neg hx0])
      have C5 := fun (W : World) (hB : Below w1.heap.size w1 W) => Lib.hid (show Calls Tryd.prog 26 #[.int .i64 (x : Nat)] W (RetIb (Lib.ctz 64 x : Nat) W) from
        (pivot_any x (by omega) hx0 W (HT1.out.below hB)).mono fun _ _ ⟨a, e⟩ => ⟨a, by rw [e]; exact Below.refl _ _⟩)
      obtain ⟨p, hp⟩ : ∃ p, p = Lib.ctz 64 x := ⟨_, rfl⟩
      rw [← hp] at hct HF C5
      obtain ⟨add, f, rfl, _, hf, hcf⟩ := HD1.out.at_ hct
      have HF2 := Lib.hid (show dgF ds x = f from by rw [HF.out, hf.out]; rfl)
      have hs1 : ((x : Int) == 0) = false := by simp; omega
      have hs2 : ((x : Int) != 0) = true := by simp; omega
      have hs3 : (x == 0) = false := by simp; omega
      have hp1 : (p : Int) < (n : Int) := by omega
      have hp0 : (0 : Int) ≤ (p : Int) := by omega
      have g0 := cell_regrown k0
      have g1 := cell_regrown k1
      have g2 := cell_regrown hcf
      have HFB := Lib.hid (HST.out f (List.mem_of_getElem? hf.out))
      clear hp HF hf hx0
      go_wp2_with fail
      refine wp_region_quiet_below (by kernel_rfl) (by kernel_rfl) ?_
      repeat (go_big_quiet_step ((go_at_call 26; exact Calls.regrown_of ((C5 _ (below_regrown _ _ _)).out))))
      refine wpQuiet_nil ?_
      intro _ hw'
      obtain ⟨⟨dq, osq⟩, hw''⟩ := hw'
      subst hw''
      have hb2 := below_regrown w1 dq osq
      obtain ⟨w2, hwq⟩ : ∃ W, W = Sort.grow (redrawn w1 dq) osq := ⟨_, rfl⟩
      rw [← hwq] at hb2 ⊢
      clear hwq
      have X2 := Lib.hid (X1.out.trans (hb2.mono X1.out.size))
      clear g0 g1 g2 k0 k1 hcf C5 hb2 HT1 HD1
      obtain ⟨d, rfl⟩ : ∃ d : Nat, f = (d : Int) := ⟨f.toNat, by have := HFB.out; omega⟩
      have hd20 : d ≤ 20 := by have := HFB.out; omega
      have HD2 := Lib.hid (H.out.below X2.out).ds
      have k0 := (F0.out.below X2.out).at_ (b := b) (o := 0) (V := .slice (some add) n c1) (by simp)
      have k1 := (F0.out.below X2.out).at_ (b := b) (o := 1) (V := .slice A2 n2 c2) (by simp)
      have C4 := Lib.hid (impl.inDegree_any (some add) A2 n c1 n2 c2 (d : Int) ds w2 HD2.out hn6)
      have hz0 := anN_zero (ds := ds) (d := (d : Int)) HX.out
      have hm6 : degM ds (d : Int) n < 65536 := two16 degM_lt hn6
      obtain ⟨m, hm⟩ : ∃ m, m = degM ds (d : Int) n := ⟨_, rfl⟩
      rw [← hm] at C4 hz0 hm6
      have hand := bits_anN (a := x) (b := m) (by omega) (by omega)
      obtain ⟨z, hz⟩ : ∃ z, z = anN x m := ⟨_, rfl⟩
      rw [← hz] at hand hz0
      have hA := HAA.out
      rw [HF2.out] at hHH hSame
      clear hm hz
      by_cases hzz : z = 0
      · have hHm := hz0.1 hzz
        have hde := hSame hHm
        rw [← hde, Int.toNat_natCast] at hA
        subst hzz
        clear hz0 hHH hSame hde
        have C5 := fun (W : World) (hB : Below w2.heap.size w2 W) => Lib.hid (unsFault_any (some add) A2 n c1 n2 c2 ds act W (H.out.below (X2.out.trans (hB.mono X2.out.size))) HTF.out hn2)
        obtain ⟨xs, hxs⟩ : ∃ xs, xs = ufL ds (act.map toT) := ⟨_, rfl⟩
        rw [← hxs] at C5 hA
        clear hxs
        go_wp2_with fail
        refine C4.out.mono ?_
        rintro e w3 ⟨rfl, hb3⟩
        have X3 := Lib.hid hb3
        have k2 := (F0.out.below (X2.out.trans (hb3.mono X2.out.size))).at_ (b := b) (o := 0) (V := .slice (some add) n c1) (by simp)
        have k3 := (F0.out.below (X2.out.trans (hb3.mono X2.out.size))).at_ (b := b) (o := 1) (V := .slice A2 n2 c2) (by simp)
        clear hb3 k0 k1
        go_wp2_with fail
        refine (C5 w3 X3.out).out.mono ?_
        rintro e w4 ⟨A4, c4, rfl, ho4, hA4, hb4⟩
        have X4 := Lib.hid (X2.out.trans ((X3.out.trans (hb4.mono X3.out.size)).mono X2.out.size))
        clear ho4 hb4 k2 k3
        by_cases hxe : xs = []
        · subst hxe
          obtain rfl : A4 = none := by cases A4 <;> simp at hA4 ⊢
          obtain ⟨hL, rfl⟩ : L = vecF (spA (act.map toT) d x) n ∧ k = 0 := by
            rcases hA with ⟨a, _⟩ | ⟨_, a, _⟩ | ⟨_, _, a, e⟩
            · exact absurd hHm a
            · exact absurd rfl a
            · exact ⟨a, e⟩
          have HL := Lib.hid hL
          have k4 := (F0.out.below X4.out).at_ (b := b) (o := 0) (V := .slice (some add) n c1) (by simp)
          have k5 := (F0.out.below X4.out).at_ (b := b) (o := 1) (V := .slice A2 n2 c2) (by simp)
          have hs := HTF.out.tri.spA_lt (k := d) (v := x) (by rw [HL1.out]; exact HX.out)
          rw [HL1.out] at hs
          have hs6 := two16 hs hn6
          have HSQ := Lib.hid (show sqF (act.map toT) n d x = spA (act.map toT) d x from by
            have := HTF.out.tri.sq (k := d) (v := x) (by rw [HL1.out]; exact HX.out)
            rw [HL1.out] at this; exact this)
          have HRL := Lib.hid (fun k i (hi : i < n) => HTF.out.tri.row_lt (k := k) (i := i) (by rw [HL1.out]; exact hi))
          obtain ⟨s, hss⟩ : ∃ s, s = spA (act.map toT) d x := ⟨_, rfl⟩
          rw [← hss] at HL hs6 HSQ
          have E4 := Lib.hid (show Ext w4 (w4.drewN 1) from below_drewN (Ext.refl w4) 1)
          have C6 := Lib.hid (tableOf_any (some add) A2 n c1 n2 c2 ds act (w4.drewN 1) (H.out.below (X4.out.trans (E4.out.mono X4.out.size))) HTF.out hn2)
          clear hA hHm hL hs hss hA4
          go_wp2_with fail
          go_region_held3 (fun w' => w'.cell? ⟨b, 0, none⟩ = some (.slice (some add) n c1) ∧ w'.cell? ⟨b, 1, none⟩ = some (.slice A2 n2 c2)) (first | exact ⟨k4, k5⟩ | exact ⟨ka0, ka1⟩ | exact ⟨kb0, kb1⟩ | exact ⟨kc0, kc1⟩)
            (first
              | (go_at_call 30
                 refine C6.out.mono ?_
                 rintro e w5 ⟨t5, rfl, hT5, hb5⟩
                 have E5 := Lib.hid (Ext.trans E4.out hb5)
                 have Y5 := Lib.hid (X4.out.trans (E5.out.mono X4.out.size))
                 have ka0 := (F0.out.below Y5.out).at_ (b := b) (o := 0) (V := .slice (some add) n c1) (by simp)
                 have ka1 := (F0.out.below Y5.out).at_ (b := b) (o := 1) (V := .slice A2 n2 c2) (by simp)
                 have T5 := Lib.hid hT5
                 clear hT5 hb5)
              | (go_at_call 31
                 have D1 : Calls Tryd.prog 31 #[.pointer (some ⟨t5, 0, none⟩), .int .i64 (d : Nat), .int .i64 (x : Nat)] w5 (RetI (sqF (act.map toT) n d x : Nat) w5) := tsquare_any t5 n d x _ (rowF (act.map toT)) w5 T5.out HRL.out hd20 hx6 hn6
                 rw [HSQ.out] at D1
                 refine D1.mono ?_
                 rintro e w6 ⟨rfl, h6⟩
                 rw [h6]
                 clear h6 D1)
              | (go_at_call 29
                 refine (vectorOf_any (some add) A2 n c1 n2 c2 s w5 hs6 hn6).mono ?_
                 rintro e w7 ⟨A7, c7, rfl, ho7, hb7⟩
                 have Y7 := Lib.hid (Y5.out.trans (hb7.mono Y5.out.size))
                 have kc0 := (F0.out.below Y7.out).at_ (b := b) (o := 0) (V := .slice (some add) n c1) (by simp)
                 have kc1 := (F0.out.below Y7.out).at_ (b := b) (o := 1) (V := .slice A2 n2 c2) (by simp)
                 have HO := Lib.hid (ho7.mono (Nat.le_trans Hb0.out.size Y5.out.size))
                 clear ho7 hb7))
          go_wp2_with fail
          rw [HR.out]
          exact RetSC.mk rfl (by rw [HL.out]; unfold vecF; simp) HO.out HL.out.symm (Hb0.out.trans (Y7.out.mono Hb0.out.size))
        · obtain ⟨rfl, rfl⟩ : L = [] ∧ k = 5 := by
            rcases hA with ⟨a, _⟩ | ⟨_, _, a, e⟩ | ⟨_, a, _⟩
            · exact absurd hHm a
            · exact ⟨a, e⟩
            · exact absurd a hxe
          obtain ⟨g, rfl⟩ : ∃ g, A4 = some g := by
            cases A4 with
            | none => exact absurd (by simpa using hA4.symm) hxe
            | some g => exact ⟨g, rfl⟩
          clear hA hHm hxe hA4
          go_wp2_with fail
          rw [HR.out]
          exact RetSC.none rfl (Hb0.out.trans (X4.out.mono Hb0.out.size))
      · obtain ⟨rfl, rfl⟩ : L = [] ∧ k = 2 := by
          have hno : ¬ Hm ds x (dgT ds x n) := fun a => hzz (hz0.2 (hHH.2 a))
          rcases hA with ⟨_, a, e⟩ | ⟨a, _⟩ | ⟨a, _⟩
          · exact ⟨a, e⟩
          · exact absurd a hno
          · exact absurd a hno
        have hs1 : ((z : Int) == 0) = false := by simp; omega
        have hs2 : ((z : Int) != 0) = true := by simp; omega
        have hs3 : (z == 0) = false := by simp; omega
        clear hA hz0 hzz hHH hSame
        go_wp2_with fail
        refine C4.out.mono ?_
        rintro e w3 ⟨rfl, hb3⟩
        have X3 := Lib.hid (Hb0.out.trans ((X2.out.trans (hb3.mono X2.out.size)).mono Hb0.out.size))
        clear hb3 k0 k1
        go_wp2_with fail
        rw [HR.out]
        exact RetSC.none rfl X3.out
end Go.Proofs.YtdpkhgkoeoiemaaDoor
