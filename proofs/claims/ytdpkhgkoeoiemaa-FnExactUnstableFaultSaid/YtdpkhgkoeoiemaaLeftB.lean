/- spec.l03Left on a word of two squares, spec.l03Form of such a word. -/
import Derived.Test.YtdpkhgkoeoiemaaLeft
import Derived.Test.YtdpkhgkoeoiemaaSumL
namespace Go.Proofs.Ytdpkhgkoeoiemaa
open Go.RowKit
set_option linter.unusedVariables false

theorem rdS_nil {w : World} {B c : Nat} {A : Option Addr} : RdS w B A 0 c [] := ⟨rfl, Nat.zero_le _, fun j h => absurd h (by simp)⟩

set_option maxRecDepth 100000 in
set_option maxHeartbeats 4000000 in
theorem left2_any (a b : Nat) (AX : Option Addr) (cx : Nat) (w : World) (h : RdL w w.heap.size AX 1 cx [[(b : Int)]]) (ha : 1 ≤ a) (hab : a / 2 + 1 ≤ b) (hb : b ≤ 100) :
    Calls Try.prog 63 #[.int .i64 (a : Nat), .slice AX 1 cx] w (RetL (formF a b).length (formF a b) w) := by
  have H := Lib.hid h
  have hst := StL.start (Below.refl w.heap.size w) (Nat.le_refl _)
  have HS := Lib.hid hst.here
  obtain ⟨V, hV⟩ : ∃ V, V = w.heap.size := ⟨_, rfl⟩
  have HVe := Lib.hid hV
  rw [← hV] at HS H
  obtain ⟨R, hR⟩ : ∃ R, R = RetL (formF a b).length (formF a b) w := ⟨_, rfl⟩
  have HR := Lib.hid hR
  rw [← hR]
  clear hR hV h hst
  have hi1 : ((a : Int) == 0) = false := by simp; omega
  have hi2 : ¬ ((a : Int) = 0) := by omega
  go_enter Try.func63, Try.ntmps63
  go_wp2_with fail
  rw [← HVe.out]
  go_loopw [5, 6] (fun o i wr => ∃ (k l c : Nat) (A : Option Addr) (zs : List (List Int)), i = .int .i64 k ∧ o = .slice A l c ∧ (k = 0 ∧ l = 0 ∧ zs = [] ∨ k = 1 ∧ zs = formF a b) ∧ Hid (StL w V wr wr.heap.size A l c zs)) (fun _ i _ => 1 - (intOf i).toNat)
  case atStart => exact ⟨0, 0, _, _, [], rfl, rfl, .inl ⟨rfl, rfl, rfl⟩, HS⟩
  case round =>
    clear HS
    obtain ⟨k, l, c, A, zs, rfl, rfl, hk, HS⟩ := hrel
    rcases hk with ⟨rfl, rfl, rfl⟩ | ⟨rfl, rfl⟩
    · obtain ⟨ad, A', n', c', x, rfl, hbk, hx, hcx, hr⟩ := (H.out.below HS.out.bel).at_ (k := 0) (by omega)
      have hc0 : wr.cell? ad = some (.slice A' n' c') := by simpa [Addr.add] using hcx
      obtain rfl : [(b : Int)] = x := by simpa using hx.out
      obtain rfl : n' = 1 := by rw [← hr.len]; rfl
      have hcap := hr.cap
      obtain ⟨ax, y, rfl, hba, hy, hcy⟩ := hr.at_ (k := 0) (by omega)
      obtain rfl : y = (b : Int) := by simpa using hy.out.symm
      have hcy0 : wr.cell? ax = some (.int .i64 (b : Int)) := by simpa [Addr.add] using hcy
      have hcyd : wr.drew.cell? ax = some (.int .i64 (b : Int)) := hcy0
      have hw1 : IntKind.i64.wrap (2 * (b : Int)) = 2 * (b : Int) := by rw [IntKind.wrap_i64]; omega
      have hw2 : wrap64 (2 * (b : Int)) = 2 * (b : Int) := by unfold wrap64; omega
      have hle : ¬ (2 * (b : Int)) ≤ (a : Int) := by omega
      have hwr := HS.out.size
      clear hbk hx hcx hr hy hcy
      have hax : ax.block < wr.heap.size := Nat.lt_of_lt_of_le hba hwr
      clear hba
      by_cases hcm : c' = 1
      · subst hcm
        have hcm := True.intro
        have hk1 : (wr.alloc (.cells #[.slice (some ax) 0 0] 22)).cell? ax = some (.int .i64 (b : Int)) := old_atA hax hcy0
        have hk2 : (wr.alloc (.cells #[.slice (some ax) 0 0] 22)).drew.cell? ax = some (.int .i64 (b : Int)) := hk1
        have HQ := Lib.hid (show RdL (wr.alloc (.cells #[.slice (some ax) 0 0] 22)).drew (wr.alloc (.cells #[.slice (some ax) 0 0] 22)).drew.heap.size (some ⟨wr.heap.size, 0, none⟩) 1 1 [[]] from (rdL_one (w := wr) (B := 0) (n := 0) (c := 0) (A := some ax) (x := []) rdS_nil (Nat.zero_le _)).drewN 1)
        have HSq := Lib.hid (HS.out.call (below_drewN (Ext.alloc (Ext.refl wr) (.cells #[.slice (some ax) 0 0] 22)) 1)).here
        go_wp2_with fail
        go_region
        obtain ⟨wq, hwq⟩ : ∃ W, W = (wr.alloc (.cells #[.slice (some ax) 0 0] 22)).drew := ⟨_, rfl⟩
        rw [← hwq]
        simp only [World.drewN] at HSq
        have HSq2 : Hid (StL w V wq wq.heap.size A 0 c []) := by rw [hwq]; exact HSq
        rw [← hwq] at HQ
        generalize (⟨wr.heap.size, 0, none⟩ : Addr) = aq at HQ ⊢
        clear hwq HSq HS hcy0 hcyd hk1 hk2 hax hc0 hcap hle hw1 hw2 hcm hwr
        go_wp2_with fail
        go_loopw [5, 10] (fun o i wx => ∃ (j l c : Nat) (A : Option Addr) (zs : List (List Int)), j ≤ a / 2 + 1 ∧ i = .int .i64 j ∧ o = .slice A l c ∧ Hid (zs = leftP a b j) ∧ Hid (l = zs.length) ∧ Hid (StL w V wx wx.heap.size A l c zs) ∧ Hid (Below wq.heap.size wq wx)) (fun _ i _ => a + 1 - (intOf i).toNat)
        case atStart => exact ⟨0, 0, c, A, [], Nat.zero_le _, rfl, rfl, Lib.hid rfl, Lib.hid rfl, HSq2, Lib.hid (Below.refl _ _)⟩
        case round =>
          clear HSq2
          obtain ⟨j, l, c, A, zs, hj, rfl, rfl, HZ, HL, HS, HX⟩ := hrel
          have hw1 : IntKind.i64.wrap (2 * (j : Int)) = 2 * (j : Int) := by rw [IntKind.wrap_i64]; omega
          by_cases hlt : j < a / 2 + 1
          · have hle : (2 * (j : Int)) ≤ (a : Int) := by omega
            have hw2 : IntKind.i64.wrap ((b : Int) - (j : Int)) = (b : Int) - (j : Int) := by rw [IntKind.wrap_i64]; omega
            have hw3 : IntKind.i64.wrap ((b : Int) - (j : Int) - 1) = ((b - 1 - j : Nat) : Int) := by rw [IntKind.wrap_i64]; omega
            have hw4 : IntKind.i64.wrap ((a : Int) - 2 * (j : Int)) = ((a - 2 * j : Nat) : Int) := by rw [IntKind.wrap_i64]; omega
            have hw5 : IntKind.i64.wrap ((a : Int) + (b : Int)) = (a : Int) + (b : Int) := by rw [IntKind.wrap_i64]; omega
            have hw6 : IntKind.i64.wrap ((a : Int) + (b : Int) - (j : Int)) = ((a + b - j : Nat) : Int) := by rw [IntKind.wrap_i64]; omega
            have HPa := Lib.hid (parityN_any (b - 1 - j) (a - 2 * j) wr (by omega) (by omega))
            have hll : zs.length ≤ 101 := by have h3 := leftP_len a b j; rw [HZ.out]; omega
            have hzt : totalL zs ≤ 202 := by
              have h4 := totalL_le (c := 2) (xss := zs) (fun x hx => by rw [HZ.out] at hx; exact leftP_mem hx)
              omega
            have hza : Asc zs := by rw [HZ.out]; exact leftP_asc a b j
            have HLL := Lib.hid hll
            have HZT := Lib.hid hzt
            have HZA := Lib.hid hza
            have hl := HL.out
            have hl101 : l ≤ 101 := by omega
            have HWR := Lib.hid (wrd_front (a := a) (b := b) (j := j) (by omega) (by omega))
            obtain ⟨s, hs⟩ : ∃ s, s = a + b - j := ⟨_, rfl⟩
            have hs2 : 2 * j ≤ s ∧ s ≤ 400 := by omega
            have HP3 := fun h => Lib.hid (leftP_yes (a := a) (b := b) (m := j) h)
            have HP4 := fun h => Lib.hid (leftP_no (a := a) (b := b) (m := j) h)
            obtain ⟨p1, hp1⟩ : ∃ p1, p1 = b - 1 - j := ⟨_, rfl⟩
            obtain ⟨p2, hp2⟩ : ∃ p2, p2 = a - 2 * j := ⟨_, rfl⟩
            rw [← hp1, ← hp2] at HPa HP3 HP4
            rw [← hp1] at hw3
            rw [← hp2] at hw4
            rw [← hs] at hw6 HWR
            clear hs hp1 hp2 hll hzt hza hl
            cases hpar : (p1 &&& p2 == p2)
            · have HN := HP4 hpar
              rw [hpar] at HPa
              simp only [Bool.false_eq_true, if_false] at HPa
              clear hpar HP3 HP4
              go_wp2_with fail
              refine HPa.out.mono ?_
              rintro e w1 ⟨rfl, h1⟩
              rw [h1]
              clear h1
              go_wp2_with fail
              go_roundw
              case rel => exact ⟨j + 1, l, c, A, zs, by omega, by go_num, rfl, Lib.hid (HZ.out.trans HN.out.symm), HL, HS, HX⟩
              case measure => simp [intOf]; omega
            · have HN := HP3 hpar
              rw [hpar] at HPa
              simp only [if_true] at HPa
              clear hpar HP3 HP4
              have C1 := Lib.hid (left1_any j (some aq) 1 [] wr ((HQ.out.below HX.out).mono HX.out.size) (by simp) (.inr (.inl rfl)) (by omega))
              go_wp2_with fail
              refine HPa.out.mono ?_
              rintro e w1 ⟨rfl, h1⟩
              rw [h1]
              clear h1
              go_wp2_with fail
              refine C1.out.mono ?_
              rintro e w2 ⟨A2, c2, rfl, ho2, hb2⟩
              have X2 := Lib.hid (HX.out.trans (hb2.mono HX.out.size))
              have S2 := Lib.hid (HS.out.call hb2).here
              have C2 := Lib.hid (left1_any s A2 c2 (frontW (j : Int) []) w2 ho2.rd (by unfold frontW; split <;> simp) (by
                unfold frontW
                by_cases h : j = 0
                · exact .inr (.inl (by rw [if_pos (by omega)]))
                · exact .inr (.inr ⟨j, [], by rw [if_neg (by omega)], hs2.1⟩)) (by omega))
              rw [HWR.out] at C2
              clear ho2 hb2
              go_wp2_with fail
              refine C2.out.mono ?_
              rintro e w3 ⟨A3, c3, rfl, ho3, hb3⟩
              have X3 := Lib.hid (X2.out.trans (hb3.mono X2.out.size))
              have S3 := Lib.hid (S2.out.call hb3).here
              have C3 := Lib.hid (l01Sum_any A A3 l c 1 c3 zs [wrd a b j] w3 S3.out.rd ho3.rd (by omega) (by omega) (by have := HZT.out; omega) (by have := wrd_len a b j; simp [totalL]; omega) HZA.out (by simp [Asc]))
              have HM := Lib.hid (show oddL (zs ++ [wrd a b j]) = leftP a b (j + 1) from by rw [HZ.out]; exact HN.out)
              rw [HM.out] at C3
              obtain ⟨z2, hz2⟩ : ∃ z, z = leftP a b (j + 1) := ⟨_, rfl⟩
              rw [← hz2] at C3
              have HZ2 := Lib.hid hz2
              obtain ⟨l2, hl2⟩ : ∃ l, l = z2.length := ⟨_, rfl⟩
              rw [← hl2] at C3
              have HL2 := Lib.hid hl2
              clear ho3 hb3 hz2 hl2
              go_wp2_with fail
              refine C3.out.mono ?_
              rintro e w4 ⟨A4, c4, rfl, ho4, hb4⟩
              have X4 := Lib.hid (X3.out.trans (hb4.mono X3.out.size))
              have S4 := Lib.hid (show StL w V w4 w4.heap.size A4 l2 c4 z2 from ⟨ho4.mono (B' := V) S3.out.size (Nat.le_refl _), S3.out.bel.trans (hb4.mono S3.out.size), Nat.le_trans S3.out.size hb4.size, Nat.le_refl _⟩)
              clear ho4 hb4
              go_wp2_with fail
              go_roundw
              case rel => exact ⟨j + 1, l2, c4, A4, z2, by omega, by go_num, rfl, HZ2, HL2, S4, X4⟩
              case measure => simp [intOf]; omega
          · obtain rfl : j = a / 2 + 1 := by omega
            have hle : ¬ (2 * ((a / 2 + 1 : Nat) : Int)) ≤ (a : Int) := by omega
            obtain ⟨m2, hm2⟩ : ∃ m2, m2 = a / 2 + 1 := ⟨_, rfl⟩
            have HE := Lib.hid (show zs = formF a b from by rw [HZ.out]; rfl)
            rw [← hm2] at hle hw1 HZ ⊢
            clear hm2 hj hlt
            go_wp2_with fail
            go_roundw
            case rel => exact ⟨1, l, c, A, zs, by go_num, rfl, .inr ⟨rfl, HE.out⟩, HS⟩
            case measure => simp [intOf]
      · have hk1 : (wr.alloc (.cells #[.slice (some ⟨ax.block, ax.off + 1, none⟩) 0 (c' - 1)] 22)).cell? ax = some (.int .i64 (b : Int)) := old_atA hax hcy0
        have hk2 : (wr.alloc (.cells #[.slice (some ⟨ax.block, ax.off + 1, none⟩) 0 (c' - 1)] 22)).drew.cell? ax = some (.int .i64 (b : Int)) := hk1
        have HQ := Lib.hid (show RdL (wr.alloc (.cells #[.slice (some ⟨ax.block, ax.off + 1, none⟩) 0 (c' - 1)] 22)).drew (wr.alloc (.cells #[.slice (some ⟨ax.block, ax.off + 1, none⟩) 0 (c' - 1)] 22)).drew.heap.size (some ⟨wr.heap.size, 0, none⟩) 1 1 [[]] from (rdL_one (w := wr) (B := 0) (n := 0) (c := (c' - 1)) (A := some ⟨ax.block, ax.off + 1, none⟩) (x := []) rdS_nil (Nat.zero_le _)).drewN 1)
        have HSq := Lib.hid (HS.out.call (below_drewN (Ext.alloc (Ext.refl wr) (.cells #[.slice (some ⟨ax.block, ax.off + 1, none⟩) 0 (c' - 1)] 22)) 1)).here
        go_wp2_with fail
        go_region
        obtain ⟨wq, hwq⟩ : ∃ W, W = (wr.alloc (.cells #[.slice (some ⟨ax.block, ax.off + 1, none⟩) 0 (c' - 1)] 22)).drew := ⟨_, rfl⟩
        rw [← hwq]
        simp only [World.drewN] at HSq
        have HSq2 : Hid (StL w V wq wq.heap.size A 0 c []) := by rw [hwq]; exact HSq
        rw [← hwq] at HQ
        generalize (⟨wr.heap.size, 0, none⟩ : Addr) = aq at HQ ⊢
        clear hwq HSq HS hcy0 hcyd hk1 hk2 hax hc0 hcap hle hw1 hw2 hcm hwr
        go_wp2_with fail
        go_loopw [5, 10] (fun o i wx => ∃ (j l c : Nat) (A : Option Addr) (zs : List (List Int)), j ≤ a / 2 + 1 ∧ i = .int .i64 j ∧ o = .slice A l c ∧ Hid (zs = leftP a b j) ∧ Hid (l = zs.length) ∧ Hid (StL w V wx wx.heap.size A l c zs) ∧ Hid (Below wq.heap.size wq wx)) (fun _ i _ => a + 1 - (intOf i).toNat)
        case atStart => exact ⟨0, 0, c, A, [], Nat.zero_le _, rfl, rfl, Lib.hid rfl, Lib.hid rfl, HSq2, Lib.hid (Below.refl _ _)⟩
        case round =>
          clear HSq2
          obtain ⟨j, l, c, A, zs, hj, rfl, rfl, HZ, HL, HS, HX⟩ := hrel
          have hw1 : IntKind.i64.wrap (2 * (j : Int)) = 2 * (j : Int) := by rw [IntKind.wrap_i64]; omega
          by_cases hlt : j < a / 2 + 1
          · have hle : (2 * (j : Int)) ≤ (a : Int) := by omega
            have hw2 : IntKind.i64.wrap ((b : Int) - (j : Int)) = (b : Int) - (j : Int) := by rw [IntKind.wrap_i64]; omega
            have hw3 : IntKind.i64.wrap ((b : Int) - (j : Int) - 1) = ((b - 1 - j : Nat) : Int) := by rw [IntKind.wrap_i64]; omega
            have hw4 : IntKind.i64.wrap ((a : Int) - 2 * (j : Int)) = ((a - 2 * j : Nat) : Int) := by rw [IntKind.wrap_i64]; omega
            have hw5 : IntKind.i64.wrap ((a : Int) + (b : Int)) = (a : Int) + (b : Int) := by rw [IntKind.wrap_i64]; omega
            have hw6 : IntKind.i64.wrap ((a : Int) + (b : Int) - (j : Int)) = ((a + b - j : Nat) : Int) := by rw [IntKind.wrap_i64]; omega
            have HPa := Lib.hid (parityN_any (b - 1 - j) (a - 2 * j) wr (by omega) (by omega))
            have hll : zs.length ≤ 101 := by have h3 := leftP_len a b j; rw [HZ.out]; omega
            have hzt : totalL zs ≤ 202 := by
              have h4 := totalL_le (c := 2) (xss := zs) (fun x hx => by rw [HZ.out] at hx; exact leftP_mem hx)
              omega
            have hza : Asc zs := by rw [HZ.out]; exact leftP_asc a b j
            have HLL := Lib.hid hll
            have HZT := Lib.hid hzt
            have HZA := Lib.hid hza
            have hl := HL.out
            have hl101 : l ≤ 101 := by omega
            have HWR := Lib.hid (wrd_front (a := a) (b := b) (j := j) (by omega) (by omega))
            obtain ⟨s, hs⟩ : ∃ s, s = a + b - j := ⟨_, rfl⟩
            have hs2 : 2 * j ≤ s ∧ s ≤ 400 := by omega
            have HP3 := fun h => Lib.hid (leftP_yes (a := a) (b := b) (m := j) h)
            have HP4 := fun h => Lib.hid (leftP_no (a := a) (b := b) (m := j) h)
            obtain ⟨p1, hp1⟩ : ∃ p1, p1 = b - 1 - j := ⟨_, rfl⟩
            obtain ⟨p2, hp2⟩ : ∃ p2, p2 = a - 2 * j := ⟨_, rfl⟩
            rw [← hp1, ← hp2] at HPa HP3 HP4
            rw [← hp1] at hw3
            rw [← hp2] at hw4
            rw [← hs] at hw6 HWR
            clear hs hp1 hp2 hll hzt hza hl
            cases hpar : (p1 &&& p2 == p2)
            · have HN := HP4 hpar
              rw [hpar] at HPa
              simp only [Bool.false_eq_true, if_false] at HPa
              clear hpar HP3 HP4
              go_wp2_with fail
              refine HPa.out.mono ?_
              rintro e w1 ⟨rfl, h1⟩
              rw [h1]
              clear h1
              go_wp2_with fail
              go_roundw
              case rel => exact ⟨j + 1, l, c, A, zs, by omega, by go_num, rfl, Lib.hid (HZ.out.trans HN.out.symm), HL, HS, HX⟩
              case measure => simp [intOf]; omega
            · have HN := HP3 hpar
              rw [hpar] at HPa
              simp only [if_true] at HPa
              clear hpar HP3 HP4
              have C1 := Lib.hid (left1_any j (some aq) 1 [] wr ((HQ.out.below HX.out).mono HX.out.size) (by simp) (.inr (.inl rfl)) (by omega))
              go_wp2_with fail
              refine HPa.out.mono ?_
              rintro e w1 ⟨rfl, h1⟩
              rw [h1]
              clear h1
              go_wp2_with fail
              refine C1.out.mono ?_
              rintro e w2 ⟨A2, c2, rfl, ho2, hb2⟩
              have X2 := Lib.hid (HX.out.trans (hb2.mono HX.out.size))
              have S2 := Lib.hid (HS.out.call hb2).here
              have C2 := Lib.hid (left1_any s A2 c2 (frontW (j : Int) []) w2 ho2.rd (by unfold frontW; split <;> simp) (by
                unfold frontW
                by_cases h : j = 0
                · exact .inr (.inl (by rw [if_pos (by omega)]))
                · exact .inr (.inr ⟨j, [], by rw [if_neg (by omega)], hs2.1⟩)) (by omega))
              rw [HWR.out] at C2
              clear ho2 hb2
              go_wp2_with fail
              refine C2.out.mono ?_
              rintro e w3 ⟨A3, c3, rfl, ho3, hb3⟩
              have X3 := Lib.hid (X2.out.trans (hb3.mono X2.out.size))
              have S3 := Lib.hid (S2.out.call hb3).here
              have C3 := Lib.hid (l01Sum_any A A3 l c 1 c3 zs [wrd a b j] w3 S3.out.rd ho3.rd (by omega) (by omega) (by have := HZT.out; omega) (by have := wrd_len a b j; simp [totalL]; omega) HZA.out (by simp [Asc]))
              have HM := Lib.hid (show oddL (zs ++ [wrd a b j]) = leftP a b (j + 1) from by rw [HZ.out]; exact HN.out)
              rw [HM.out] at C3
              obtain ⟨z2, hz2⟩ : ∃ z, z = leftP a b (j + 1) := ⟨_, rfl⟩
              rw [← hz2] at C3
              have HZ2 := Lib.hid hz2
              obtain ⟨l2, hl2⟩ : ∃ l, l = z2.length := ⟨_, rfl⟩
              rw [← hl2] at C3
              have HL2 := Lib.hid hl2
              clear ho3 hb3 hz2 hl2
              go_wp2_with fail
              refine C3.out.mono ?_
              rintro e w4 ⟨A4, c4, rfl, ho4, hb4⟩
              have X4 := Lib.hid (X3.out.trans (hb4.mono X3.out.size))
              have S4 := Lib.hid (show StL w V w4 w4.heap.size A4 l2 c4 z2 from ⟨ho4.mono (B' := V) S3.out.size (Nat.le_refl _), S3.out.bel.trans (hb4.mono S3.out.size), Nat.le_trans S3.out.size hb4.size, Nat.le_refl _⟩)
              clear ho4 hb4
              go_wp2_with fail
              go_roundw
              case rel => exact ⟨j + 1, l2, c4, A4, z2, by omega, by go_num, rfl, HZ2, HL2, S4, X4⟩
              case measure => simp [intOf]; omega
          · obtain rfl : j = a / 2 + 1 := by omega
            have hle : ¬ (2 * ((a / 2 + 1 : Nat) : Int)) ≤ (a : Int) := by omega
            obtain ⟨m2, hm2⟩ : ∃ m2, m2 = a / 2 + 1 := ⟨_, rfl⟩
            have HE := Lib.hid (show zs = formF a b from by rw [HZ.out]; rfl)
            rw [← hm2] at hle hw1 HZ ⊢
            clear hm2 hj hlt
            go_wp2_with fail
            go_roundw
            case rel => exact ⟨1, l, c, A, zs, by go_num, rfl, .inr ⟨rfl, HE.out⟩, HS⟩
            case measure => simp [intOf]
    · go_wp2_with fail
      rw [HR.out]
      have h := HS.out
      rw [HVe.out] at h
      obtain rfl := h.own.len
      exact h.ret
end Go.Proofs.Ytdpkhgkoeoiemaa
