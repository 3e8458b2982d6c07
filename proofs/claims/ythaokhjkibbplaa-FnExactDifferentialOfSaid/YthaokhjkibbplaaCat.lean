/- slices.Grow of nil, slices.Concat of three lists of integers. -/
import Derived.Lib.AppendZeros
import Derived.Test.YthaokhjkibbplaaMulL
namespace Go.Proofs.Ythaokhjkibbplaa
open Go.RowKit
set_option linter.unusedVariables false

theorem grow_any (n : Nat) (w : World) (hn : 1 ≤ n) (hb : n ≤ 1000000000) :
    Calls Try.prog 82 #[.slice none 0 0, .int .i64 n] w (RetO 0 [] w) := by
  obtain ⟨i, z, hi, hz, hsz, hby, hzs⟩ := eltI.info
  have happ := Lib.run_append_nil_zeros (P := Try.prog) w 40 3 40 2 i z .i64 .i64 Try.underlying40 Try.underlying3 hi hz n (by omega) (by omega) (by omega) (by rw [hby]; omega)
  obtain ⟨cap2, hcap⟩ : ∃ c, c = grownCap w n 0 2 := ⟨_, rfl⟩
  have hcapge : n ≤ cap2 := by rw [hcap]; exact grownCap_ge w _ 0 _
  have hcaple : cap2 ≤ maxLen := by rw [hcap]; exact grownCap_le_maxLen w _ 0 _ (by unfold maxLen; omega)
  rw [← hcap] at happ
  obtain ⟨Z, hZ⟩ : ∃ Z, Z = (Builtin.zeroCells z.cells n ++ Builtin.zeroCells z.cells (cap2 - n)) := ⟨_, rfl⟩
  have hZs : Z.size = cap2 := by rw [hZ]; simp [size_zeroCells, hzs]; omega
  rw [← hZ] at happ
  clear hcap hZ hi hz hsz hby hzs
  have Happ := Lib.hid happ; clear happ
  have hm : (cap2 : Int) ≤ 9223372036854775807 := by unfold maxLen at hcaple; omega
  have HO : Hid (OwnS (w.drew.alloc (.cells Z 2)) w.heap.size (some ⟨w.heap.size, 0, none⟩) 0 cap2 []) := Lib.hid
    ⟨rfl, by simp, .inr ⟨w.heap.size, cap2, Z, rfl, Nat.le_refl _, heap_alloc_new w.drew _, Nat.zero_le _, hcaple, by omega, by simp⟩⟩
  have HB : Hid (Below w.heap.size w (w.drew.alloc (.cells Z 2))) := Lib.hid (Below.alloc (below_drewN (Below.refl _ _) 1) (Nat.le_refl _) _)
  go_enter Try.func82, Try.ntmps82
  go_wp2_with (at_builtin; refine Lib.wpList_append_run _ rfl _ _ _ _ rfl _ _ rfl rfl _ _ Happ.out ?_)
  go_ret
  exact ⟨_, _, rfl, HO.out, HB.out⟩

theorem totalL_succ {xss : List (List Int)} {k : Nat} {x : List Int} (h : xss[k]? = some x) : totalL (xss.take (k + 1)) = totalL (xss.take k) + x.length := by
  rw [List.take_add_one, h]
  simp [totalL]
theorem totalL_take (xss : List (List Int)) (k : Nat) : totalL (xss.take k) ≤ totalL xss := by
  conv => rhs; rw [← List.take_append_drop k xss]
  unfold totalL
  rw [List.map_append, List.sum_append]
  omega
theorem flatten_succ {xss : List (List Int)} {k : Nat} {x : List Int} (h : xss[k]? = some x) : (xss.take (k + 1)).flatten = (xss.take k).flatten ++ x := by
  rw [List.take_add_one, h]
  simp

theorem concat_any (A : Option Addr) (n c B : Nat) (xss : List (List Int)) (w : World) (h : RdL w B A n c xss) (hB : B ≤ w.heap.size) (hn : n ≤ 1000000) (ht : totalL xss ≤ 1000000000) (hp : 1 ≤ totalL xss) :
    Calls Try.prog 71 #[.slice A n c] w (RetO (totalL xss) xss.flatten w) := by
  obtain ⟨V, hV⟩ : ∃ V, V = w.heap.size := ⟨_, rfl⟩
  have HVe := Lib.hid hV
  have H := Lib.hid (show RdL w V A n c xss from h.mono (by rw [hV]; exact hB))
  have HL := Lib.hid h.len
  clear h hV
  obtain ⟨T, hT⟩ : ∃ T, T = totalL xss := ⟨_, rfl⟩
  have HT := Lib.hid hT
  rw [← hT] at ht hp ⊢
  clear hT
  go_enter Try.func71, Try.ntmps71
  go_wp2_with fail
  go_loopw [3, 11] (fun s i wr => ∃ (k t : Nat), k ≤ n ∧ i = .int .i64 k ∧ s = .int .i64 t ∧ Hid (t = totalL (xss.take k)) ∧ wr = w) (fun _ i _ => n - (intOf i).toNat)
  case atStart => exact ⟨0, 0, Nat.zero_le _, rfl, rfl, Lib.hid (by simp [totalL]), rfl⟩
  case round =>
    obtain ⟨k, t, hk, rfl, rfl, HA, hwr⟩ := hrel
    subst hwr
    by_cases hlt : k < n
    · obtain ⟨ad, A3, n3, c3, x, rfl, hbk, hx, hc, hr⟩ := H.out.at_ hlt
      have hs := totalL_succ hx.out
      rw [← HA.out, hr.len] at hs
      have hle := totalL_take xss (k + 1)
      rw [hs, ← HT.out] at hle
      have HS := Lib.hid hs.symm
      clear hs hr
      go_wp2_with fail
      go_roundw
      case rel => exact ⟨k + 1, t + n3, by omega, by go_num, by go_num, HS, trivial⟩
      case measure => simp [intOf]; omega
    · have htT : t = T := by rw [HA.out, HT.out, List.take_of_length_le (by rw [HL.out]; omega)]
      subst htT
      go_wp2_with fail
      refine (grow_any t _ hp ht).mono ?_
      rintro e w1 ⟨A1, c1, rfl, ho, hb⟩
      have HS1 := Lib.hid (show StS wr V w1 A1 0 c1 [] from ⟨by rw [HVe.out]; exact ho, by rw [HVe.out]; exact hb, by rw [HVe.out]; exact hb.size⟩)
      clear ho hb
      go_wp2_with fail
      go_loopw [6, 27] (fun o i wz => ∃ (k l c' : Nat) (A' : Option Addr), k ≤ n ∧ i = .int .i64 k ∧ o = .slice A' l c' ∧ Hid (l = totalL (xss.take k)) ∧ Hid (StS wr V wz A' l c' (xss.take k).flatten)) (fun _ i _ => n - (intOf i).toNat)
      case atStart => exact ⟨0, 0, c1, A1, Nat.zero_le _, rfl, rfl, Lib.hid (by simp [totalL]), HS1⟩
      case round =>
        clear HS1
        obtain ⟨k, l, c', A', hk, rfl, rfl, HA2, HS⟩ := hrel
        by_cases hlt : k < n
        · obtain ⟨ad, A3, n3, c3, x, rfl, hbk, hx, hc, hr⟩ := (H.out.below HS.out.bel).at_ hlt
          have hs := totalL_succ hx.out
          rw [← HA2.out, hr.len] at hs
          have hle := totalL_take xss (k + 1)
          rw [hs, ← HT.out] at hle
          have HS3 := Lib.hid hs.symm
          have R3 := Lib.hid hr
          clear hs hr
          go_wp2_with (at_builtin; refine wpList_joinI rfl (.tmp 31) (.tmp 32) rfl rfl rfl HS.out R3.out (by omega) ?_)
          intro A6 c6 w6 hs6 _
          rw [← flatten_succ hx.out] at hs6
          have HS6 := Lib.hid hs6; clear hs6
          go_wp2_with fail
          go_roundw
          case rel => exact ⟨k + 1, l + n3, c6, A6, by omega, by go_num, rfl, HS3, HS6⟩
          case measure => simp [intOf]; omega
        · obtain rfl : k = n := by omega
          have hlT : l = t := by rw [HA2.out, HT.out, List.take_of_length_le (by rw [HL.out]; exact Nat.le_refl _)]
          have HF : Hid ((xss.take k).flatten = xss.flatten) := Lib.hid (by rw [List.take_of_length_le (by rw [HL.out]; exact Nat.le_refl _)])
          have h8 := HS.out
          rw [HF.out, HVe.out, hlT] at h8
          have H8 := Lib.hid h8
          clear h8
          subst hlT
          go_wp2_with fail
          go_ret
          exact RetO.mk2 rfl rfl H8.out
end Go.Proofs.Ythaokhjkibbplaa
