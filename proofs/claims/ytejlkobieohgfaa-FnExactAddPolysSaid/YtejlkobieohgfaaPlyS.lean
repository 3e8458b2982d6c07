/- IsPoly on both sides: the reference. -/
import Derived.Test.YtejlkobieohgfaaPly
namespace Go.Proofs.Ytejlkobieohgfaa
open Go.RowKit
set_option linter.unusedVariables false

def okm (v : Int) (x0 x : List Int) : Bool := monB v x && decide (psT 0 x = psT 0 x0)
theorem polB_eq (v : Int) (xss : List (List Int)) : polB v xss = (inB v 1 4 && decide (xss.length ≤ 2000) && risB xss && xss.all (okm v (xss.headD []))) := by
  have h : xss.all (okm v (xss.headD [])) = (xss.all (monB v) && sameB (psT 0) xss) := by
    rw [Bool.eq_iff_iff]
    simp only [Bool.and_eq_true, List.all_eq_true, sameB, okm]
    exact ⟨fun h => ⟨fun x hx => (h x hx).1, fun x hx => (h x hx).2⟩, fun h x hx => ⟨h.1 x hx, h.2 x hx⟩⟩
  rw [h]
  unfold polB
  cases inB v 1 4 <;> cases decide (xss.length ≤ 2000) <;> cases risB xss <;> cases xss.all (monB v) <;> cases sameB (psT 0) xss <;> rfl
theorem degsB_no {xs : List Int} {k : Nat} {x : Int} (hx : Hid (xs[k]? = some x)) (h : inB x 0 40 = false) : degsB xs = false := by
  rw [degsB, List.all_eq_false]
  exact ⟨x, mem_of hx, by simp [h]⟩

set_option maxHeartbeats 1000000 in
theorem l08Is_any (v : Int) (A : Option Addr) (n c : Nat) (xss : List (List Int)) (w : World) (h : RdL w w.heap.size A n c xss) (hn : n ≤ 2000000) (ht : totalL xss ≤ 2000000) :
    Calls Try.prog 77 #[.agg #[.int .i64 v, .slice A n c]] w (RetBb (polB v xss) w) := by
  have HX := Lib.hid (fun (x : List Int) (hx : x ∈ xss) => Nat.le_trans (len_le_of_total hx) ht)
  have HT := Lib.hid ht; clear ht
  have HL := Lib.hid h.len
  obtain ⟨w0, hw0⟩ : ∃ w0, w0 = w.alloc (.cells #[.int .i64 v, .slice A n c] 28) := ⟨_, rfl⟩
  obtain ⟨b, hb⟩ : ∃ b, b = w.heap.size := ⟨_, rfl⟩
  have hB0 : Below w.heap.size w w0 := by rw [hw0]; exact (Below.refl _ _).alloc (Nat.le_refl _) _
  have hc0 : w0.cell? ⟨b, 0, none⟩ = some (.int .i64 v) := by rw [hw0, hb]; simp
  have hc1 : w0.cell? ⟨b, 1, none⟩ = some (.slice A n c) := by rw [hw0, hb]; simp
  have H := Lib.hid (h.below hB0); clear h
  have HB0 := Lib.hid hB0; clear hB0
  have Hw := Lib.hid hw0; clear hw0
  have Hbe := Lib.hid hb; clear hb
  rw [polB_eq]
  obtain ⟨R, hR⟩ : ∃ R, R = (inB v 1 4 && decide (xss.length ≤ 2000) && risB xss && xss.all (okm v (xss.headD []))) := ⟨_, rfl⟩
  have HR := Lib.hid hR
  rw [← hR]
  clear hR
  obtain ⟨i, hi⟩ : ∃ i, i = inB v 1 4 := ⟨_, rfl⟩
  have Hi := Lib.hid hi; clear hi
  go_enter Try.func77, Try.ntmps77
  go_wp2_with fail
  rw [← Hw.out, ← Hbe.out]
  refine (l01In_any _ _ _ _).mono ?_
  rintro e w1 ⟨rfl, rfl⟩
  rw [← Hi.out]
  cases i
  · have HV : Hid (R = false) := Lib.hid (by rw [HR.out, ← Hi.out]; rfl)
    go_wp2_with fail
    go_ret
    exact RetBb.mk (b' := false) HV.out.symm HB0.out
  by_cases h1 : n ≤ 2000
  · have hd1 : decide ((2000 : Int) < (n : Int)) = false := by simp; omega
    have HA := fun W : Nat => Lib.hid (ascending_any A n c _ xss (w1.drewN W) (H.out.drewN W) (by omega) (by have := HT.out; omega))
    cases hr : risB xss
    · have HV : Hid (R = false) := Lib.hid (by rw [HR.out, hr]; simp)
      rw [hr] at HA; clear hr
      go_wp2_with fail
      refine (HA 0).out.mono ?_
      rintro e w2 ⟨rfl, q, rfl⟩
      go_wp2_with fail
      go_ret
      exact RetBb.mk (b' := false) HV.out.symm (below_drewN HB0.out q)
    · have HV : Hid (R = xss.all (okm v (xss.headD []))) := Lib.hid (by rw [HR.out, hr, ← Hi.out, show decide (xss.length ≤ 2000) = true from by simp [HL.out, h1]]; rfl)
      rw [hr] at HA; clear hr
      go_wp2_with fail
      refine (HA 0).out.mono ?_
      rintro e w2 ⟨rfl, q0, rfl⟩
      go_wp2_with fail
      go_loopw [3, 4, 5] (fun i _ _ wr => ∃ k : Nat, k ≤ n ∧ i = .int .i64 k ∧ Hid ((xss.take k).all (okm v (xss.headD [])) = true) ∧ ∃ q, wr = w1.drewN q) (fun i _ _ _ => n - (intOf i).toNat)
      case atStart => exact ⟨0, Nat.zero_le _, rfl, Lib.hid (by simp), (by first | exact ⟨_, rfl⟩ | exact ⟨_, World.drewN_drewN _ _ _⟩ | (simp only [World.drewN_drewN]; exact ⟨_, rfl⟩))⟩
      case round =>
        obtain ⟨k, hk, rfl, HK, q, rfl⟩ := hrel
        clear HA
        by_cases hlt : k < n
        · obtain ⟨ad, A1, n1, c1, x, rfl, _, hx, hcr, hr1⟩ := H.out.at_ hlt
          obtain ⟨ad', A0, n0, c0, x0, had, _, hx0, hcr0, hr0⟩ := H.out.at_ (show 0 < n by omega)
          obtain rfl : ad = ad' := by simpa using had
          clear had
          have hc00 : w1.cell? ad = some (.slice A0 n0 c0) := by simpa [Addr.add] using hcr0
          clear hcr0
          have hh : xss.headD [] = x0 := by
            have := hx0.out
            cases xss with
            | nil => simp at this
            | cons y ys => simpa using this
          have hn1 : n1 ≤ 2000000 := by rw [← hr1.len]; exact HX.out x (List.mem_of_getElem? hx.out)
          have hn0 : n0 ≤ 2000000 := by rw [← hr0.len]; exact HX.out x0 (List.mem_of_getElem? hx0.out)
          have Hl1 := Lib.hid hr1.len
          have hpos : (0 : Int) < (n : Int) := by omega
          have hk0 : (0 : Int) ≤ (k : Int) := by omega
          have hkn : (k : Int) < (n : Int) := by omega
          have Hs1 := fun W : Nat => Lib.hid (deg_any A1 n1 c1 _ x (w1.drewN W) (hr1.drewN W) (by omega))
          have Hs0 := fun W : Nat => Lib.hid (deg_any A0 n0 c0 _ x0 (w1.drewN W) (hr0.drewN W) (by omega))
          rw [hh] at HV HK
          have Hh := Lib.hid hh
          have H1 := Lib.hid hr1
          clear hr1 hr0 hh
          by_cases hlv : (n1 : Int) = v
          · have hne1 : ((n1 : Int) != v) = false := by simpa using hlv
            have HLV := Lib.hid hlv
            clear hlv
            go_wp2_with fail
            go_quiet (fail)
            rename_i nq
            go_wp2_with fail
            go_loopw [4] (fun i wr => ∃ j : Nat, j ≤ n1 ∧ i = .int .i64 j ∧ Hid (degsB (x.take j) = true) ∧ ∃ q, wr = w1.drewN q) (fun i _ => n1 - (intOf i).toNat)
            case atStart => exact ⟨0, Nat.zero_le _, rfl, Lib.hid rfl, (by first | exact ⟨_, rfl⟩ | exact ⟨_, World.drewN_drewN _ _ _⟩ | (simp only [World.drewN_drewN]; exact ⟨_, rfl⟩))⟩
            case round =>
              obtain ⟨j, hj, rfl, HF, q5, rfl⟩ := hrel
              by_cases hjt : j < n1
              · obtain ⟨ad1, y, rfl, _, hy, hcy⟩ := H1.out.at_ hjt
                cases hi : inB y 0 40
                · have HI := Lib.hid hi; clear hi
                  have HN : Hid (R = false) := Lib.hid (by rw [HV.out]; exact all_no hx (Lib.hid (by simp [okm, monB, degsB_no hy HI.out])))
                  go_wp2_with fail
                  refine (l01In_any _ _ _ _).mono ?_
                  rintro e w' ⟨rfl, rfl⟩
                  rw [HI.out]
                  go_wp2_with fail
                  go_ret
                  exact RetBb.mk (b' := false) HN.out.symm (by first | exact below_drewN HB0.out _ | exact below_drewN (below_drewN HB0.out _) _)
                · have HI := Lib.hid hi; clear hi
                  go_wp2_with fail
                  refine (l01In_any _ _ _ _).mono ?_
                  rintro e w' ⟨rfl, rfl⟩
                  rw [HI.out]
                  go_wp2_with fail
                  go_roundw
                  case rel => exact ⟨j + 1, by omega, by go_num, Lib.hid (by
                    have h1 := HF.out
                    rw [take_succ_of hy]
                    unfold degsB at h1 ⊢
                    rw [List.all_append, h1]
                    simp [HI.out]), (by first | exact ⟨_, rfl⟩ | exact ⟨_, World.drewN_drewN _ _ _⟩ | (simp only [World.drewN_drewN]; exact ⟨_, rfl⟩))⟩
                  case measure => simp [intOf]; omega
              · obtain rfl : j = n1 := by omega
                have hfa : degsB x = true := by have h1 := HF.out; rwa [List.take_of_length_le (by rw [Hl1.out]; omega)] at h1
                have HM : Hid (okm v x0 x = (decide (psT 0 x ≤ 40) && decide (psT 0 x = psT 0 x0))) := Lib.hid (by simp [okm, monB, hfa, Hl1.out, HLV.out])
                obtain ⟨t, ht⟩ : ∃ t, t = psT 0 x := ⟨_, rfl⟩
                obtain ⟨u, hu⟩ : ∃ u, u = psT 0 x0 := ⟨_, rfl⟩
                rw [← ht] at Hs1 HM
                rw [← hu] at Hs0 HM
                clear ht hu hfa
                by_cases ht40 : t ≤ 40
                · have hd2 : decide ((40 : Int) < t) = false := by simp; omega
                  by_cases htu : t = u
                  · have HN : Hid (okm v x0 x = true) := Lib.hid (by rw [HM.out, ← htu]; simp [ht40])
                    subst htu
                    have hne2 : (t != t) = false := by simp
                    go_wp2_with fail
                    refine (Hs1 _).out.mono ?_
                    rintro e w' ⟨rfl, rfl⟩
                    go_wp2_with fail
                    refine (Hs0 _).out.mono ?_
                    rintro e w' ⟨rfl, rfl⟩
                    go_wp2_with fail
                    go_roundw
                    case rel => exact ⟨k + 1, by omega, by go_num, Lib.hid (by rw [Hh.out]; exact all_take_succL hx HK HN), (by first | exact ⟨_, rfl⟩ | exact ⟨_, World.drewN_drewN _ _ _⟩ | (simp only [World.drewN_drewN]; exact ⟨_, rfl⟩))⟩
                    case measure => simp [intOf]; omega
                  · have HN : Hid (R = false) := Lib.hid (by rw [HV.out]; exact all_no hx (Lib.hid (by rw [HM.out]; simp [htu])))
                    have hne1 : (t == u) = false := by simpa using htu
                    have hne2 : (t != u) = true := by simpa using htu
                    clear htu
                    go_wp2_with fail
                    refine (Hs1 _).out.mono ?_
                    rintro e w' ⟨rfl, rfl⟩
                    go_wp2_with fail
                    refine (Hs0 _).out.mono ?_
                    rintro e w' ⟨rfl, rfl⟩
                    go_wp2_with fail
                    go_ret
                    exact RetBb.mk (b' := false) HN.out.symm (by first | exact below_drewN HB0.out _ | exact below_drewN (below_drewN HB0.out _) _)
                · have hd2 : decide ((40 : Int) < t) = true := by simp; omega
                  have HN : Hid (R = false) := Lib.hid (by rw [HV.out]; exact all_no hx (Lib.hid (by rw [HM.out]; simp [ht40])))
                  go_wp2_with fail
                  refine (Hs1 _).out.mono ?_
                  rintro e w' ⟨rfl, rfl⟩
                  go_wp2_with fail
                  go_ret
                  exact RetBb.mk (b' := false) HN.out.symm (by first | exact below_drewN HB0.out _ | exact below_drewN (below_drewN HB0.out _) _)
          · have hne1 : ((n1 : Int) != v) = true := by simpa using hlv
            have HN : Hid (R = false) := Lib.hid (by rw [HV.out]; exact all_no hx (Lib.hid (by simp [okm, monB, Hl1.out, hlv])))
            clear hlv
            go_wp2_with fail
            go_quiet (fail)
            rename_i nq
            go_wp2_with fail
            go_ret
            exact RetBb.mk (b' := false) HN.out.symm (by first | exact below_drewN HB0.out _ | exact below_drewN (below_drewN HB0.out _) _)
        · go_wp2_with fail
          go_ret
          obtain rfl : k = n := by omega
          exact RetBb.mk (b' := true) (by have h3 := HK.out; rw [List.take_of_length_le (by rw [HL.out]; omega)] at h3; rw [HV.out, h3]) (by first | exact below_drewN HB0.out _ | exact below_drewN (below_drewN HB0.out _) _)
  · have hd1 : decide ((2000 : Int) < (n : Int)) = true := by simp; omega
    have HV : Hid (R = false) := Lib.hid (by rw [HR.out, HL.out, show decide (n ≤ 2000) = false from by simp; omega]; simp)
    go_wp2_with fail
    go_ret
    exact RetBb.mk (b' := false) HV.out.symm HB0.out
end Go.Proofs.Ytejlkobieohgfaa
