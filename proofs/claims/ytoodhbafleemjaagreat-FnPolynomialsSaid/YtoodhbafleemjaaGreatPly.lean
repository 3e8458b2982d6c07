/- IsPoly on both sides: conditions on monomials. -/
import Derived.Test.YtoodhbafleemjaaGreatAllL
import Derived.Test.YtoodhbafleemjaaGreatLawK
namespace Go.Proofs.YtoodhbafleemjaaGreat
open Go.RowKit
set_option linter.unusedVariables false

def degsB (xs : List Int) : Bool := xs.all (fun x => inB x 0 40)
def monB (v : Int) (xs : List Int) : Bool := decide ((xs.length : Int) = v) && degsB xs && decide (psT 0 xs ≤ 40)
def polB (v : Int) (xss : List (List Int)) : Bool := inB v 1 4 && decide (xss.length ≤ 2000) && xss.all (monB v) && risB xss && sameB (psT 0) xss

theorem isDegree_any (n : Int) (w : World) : Calls Tryz.prog 64 #[.int .i64 n] w (RetP (inB n 0 40) w) := by
  go_enter Tryz.func64, Tryz.ntmps64
  go_wp2_with fail
  refine (in_any _ _ _ _).mono ?_
  rintro e w' ⟨rfl, rfl⟩
  go_wp2_with fail
  go_ret
  exact RetP.mk rfl
theorem isCount_any (n : Int) (w : World) : Calls Tryz.prog 59 #[.int .i64 n] w (RetP (inB n 1 4) w) := by
  go_enter Tryz.func59, Tryz.ntmps59
  go_wp2_with fail
  refine (in_any _ _ _ _).mono ?_
  rintro e w' ⟨rfl, rfl⟩
  go_wp2_with fail
  go_ret
  exact RetP.mk rfl
theorem degsAll_any (A : Option Addr) (n c : Nat) (xs : List Int) (w : World) (h : RdS w w.heap.size A n c xs) (hn : n ≤ 2000000) :
    Calls Tryz.prog 74 #[.slice A n c, .func (.func 64) #[] #[]] w (RetBb (degsB xs) w) := by
  have hl := h.len
  refine (allI_any A n c xs _ _ _ w h hn (cond_of (fun x => inB x 0 40) (enters_of Tryz.func64 (by kernel_rfl) rfl) isDegree_any xs w)).mono ?_
  intro e w' hw
  rw [all_range xs (fun x => inB x 0 40) _ n hl (fun j hj => by simp [List.getElem?_eq_getElem hj])] at hw
  exact hw

theorem isMonomial_any (A : Option Addr) (n c : Nat) (xs : List Int) (v : Int) (w : World) (h : RdS w w.heap.size A n c xs) (hn : n ≤ 2000000) :
    Calls Tryz.prog 58 #[.slice A n c, .int .i64 v] w (RetBb (monB v xs) w) := by
  have Hl := Lib.hid h.len
  have H := Lib.hid h; clear h
  by_cases hv : (n : Int) = v
  · cases hf : degsB xs
    · have HV : Hid (monB v xs = false) := Lib.hid (by simp [monB, hf])
      have HF := Lib.hid hf; clear hf
      have hb1 : ((n : Int) == v) = true := by simpa using hv
      clear hv
      go_enter Tryz.func58, Tryz.ntmps58
      go_wp2_with fail
      refine (degsAll_any A n c xs _ H.out (by omega)).mono ?_
      rintro e w1 ⟨rfl, hb1⟩
      rw [HF.out]
      go_wp2_with fail
      go_ret
      exact RetBb.mk (b' := false) HV.out.symm hb1
    · obtain ⟨t, ht⟩ : ∃ t, t = psT 0 xs := ⟨_, rfl⟩
      have HV : Hid (monB v xs = decide (t ≤ 40)) := Lib.hid (by simp [monB, hf, Hl.out, hv, ht])
      have HF := Lib.hid hf; clear hf
      have HT := Lib.hid ht
      clear ht
      have hb1 : ((n : Int) == v) = true := by simpa using hv
      clear hv
      go_enter Tryz.func58, Tryz.ntmps58
      go_wp2_with fail
      refine (degsAll_any A n c xs _ H.out (by omega)).mono ?_
      rintro e w1 ⟨rfl, hb1⟩
      rw [HF.out]
      have HB1 := Lib.hid hb1; clear hb1
      go_wp2_with fail
      refine (sum_any A n c _ xs _ (H.out.below HB1.out) (by omega)).mono ?_
      rintro e w2 ⟨rfl, rfl⟩
      rw [← HT.out]
      go_wp2_with fail
      go_ret
      exact RetBb.mk (b' := decide (t ≤ 40)) HV.out.symm HB1.out
  · have HV : Hid (monB v xs = false) := Lib.hid (by simp [monB, Hl.out, hv])
    have hb1 : ((n : Int) == v) = false := by simpa using hv
    clear hv
    go_enter Tryz.func58, Tryz.ntmps58
    go_wp2_with fail
    go_ret
    exact RetBb.mk (b' := false) HV.out.symm (Below.refl _ _)

theorem isPoly1_any (g : Nat) (v : Int) (A : Option Addr) (n c : Nat) (xs : List Int) (w : World) (hc : w.cell? ⟨g, 0, none⟩ = some (.int .i64 v)) (h : RdS w w.heap.size A n c xs) (hn : n ≤ 2000000) :
    Calls Tryz.prog 57 #[.slice A n c, .pointer (some ⟨g, 0, none⟩)] w (RetBb (monB v xs) w) := by
  have H := Lib.hid h; clear h
  go_enter Tryz.func57, Tryz.ntmps57
  go_wp2_with fail
  refine (isMonomial_any A n c xs v _ H.out hn).mono ?_
  rintro e w1 ⟨rfl, hb1⟩
  go_wp2_with fail
  go_ret
  exact RetBb.mk rfl hb1
theorem isPoly1_cond (g : Nat) (v : Int) (xss : List (List Int)) (w : World) (hc : w.cell? ⟨g, 0, none⟩ = some (.int .i64 v)) (hg : g < w.heap.size) (hx : ∀ x ∈ xss, x.length ≤ 2000000) :
    CondL 57 #[.pointer (some ⟨g, 0, none⟩)] xss (fun j => monB v (xss[j]?.getD [])) w := by
  refine ⟨enters_of Tryz.func57 (by kernel_rfl) rfl, fun j A' n' c' xs hv w' hb hr => ?_⟩
  have hgx : xss[j]?.getD [] = xs := by simp [hv]
  rw [hgx]
  exact isPoly1_any g v A' n' c' xs w' ((hb.cell (p := ⟨g, 0, none⟩) hg).trans hc) hr (by rw [← hr.len]; exact hx xs (List.mem_of_getElem? hv))

theorem iIsPoly (v : Int) (A : Option Addr) (n c : Nat) (xss : List (List Int)) (w : World) (h : RdL w w.heap.size A n c xss) (hn : n ≤ 2000000) (ht : totalL xss ≤ 2000000) :
    Calls Tryz.prog 10 #[.agg #[.int .i64 v, .slice A n c]] w (RetBb (polB v xss) w) := by
  have hx : ∀ x ∈ xss, x.length ≤ 2000000 := fun x hx => Nat.le_trans (len_le_of_total hx) ht
  have hl := h.len
  have hb0 : Below w.heap.size w (w.alloc (.cells #[.int .i64 v, .slice A n c] 26)) := (Below.refl _ _).alloc (Nat.le_refl _) _
  have H := Lib.hid ((h.below hb0).mono hb0.size); clear h
  have HX := Lib.hid hx; clear hx
  have HL := Lib.hid hl; clear hl
  have Hb0 := Lib.hid hb0; clear hb0
  have HC0 : Hid ((w.alloc (.cells #[.int .i64 v, .slice A n c] 26)).cell? ⟨w.heap.size, 0, none⟩ = some (.int .i64 v)) := Lib.hid (by simp)
  have HC1 : Hid ((w.alloc (.cells #[.int .i64 v, .slice A n c] 26)).cell? ⟨w.heap.size, 1, none⟩ = some (.slice A n c)) := Lib.hid (by simp)
  obtain ⟨m, hm⟩ : ∃ m, m = xss.all (monB v) := ⟨_, rfl⟩
  have Hm := Lib.hid hm
  have Hall := Lib.hid (allL_any A n c xss _ _ _ _ H.out hn (isPoly1_cond w.heap.size v xss _ HC0.out (by simp) HX.out))
  rw [allR_rows (monB v) HL.out, ← hm] at Hall
  clear hm
  obtain ⟨i, hi⟩ : ∃ i, i = inB v 1 4 := ⟨_, rfl⟩
  have Hi := Lib.hid hi; clear hi
  go_enter Tryz.func10, Tryz.ntmps10
  go_wp2_with fail
  refine (Hall.out).mono ?_
  rintro e w1 ⟨rfl, hb1⟩
  have hc0 := box_cell hb1 HC0.out
  have hc1 := box_cell hb1 HC1.out
  have Hb1 := Lib.hid hb1; clear hb1
  go_wp2_with fail
  refine (isCount_any _ _).mono ?_
  rintro e w2 ⟨rfl, rfl⟩
  rw [← Hi.out]
  cases i
  · have HV : Hid (polB v xss = false) := Lib.hid (by simp [polB, ← Hi.out])
    go_wp2_with fail
    go_ret
    exact RetBb.mk (b' := false) HV.out.symm (Hb0.out.trans (Hb1.out.mono Hb0.out.size))
  · by_cases h1 : n ≤ 2000
    · have hd1 : decide ((n : Int) ≤ 2000) = true := by simp; omega
      cases m
      · have HV : Hid (polB v xss = false) := Lib.hid (by simp [polB, ← Hm.out])
        go_wp2_with fail
        go_ret
        exact RetBb.mk (b' := false) HV.out.symm (Hb0.out.trans (Hb1.out.mono Hb0.out.size))
      · cases hr : risB xss
        · have HV : Hid (polB v xss = false) := Lib.hid (by simp [polB, hr])
          have HR := Lib.hid hr; clear hr
          go_wp2_with fail
          refine (rising_any A n c _ xss _ (H.out.below Hb1.out) (by omega) (by have := HX.out; omega)).mono ?_
          rintro e w2 ⟨rfl, q2, rfl⟩
          rw [HR.out]
          go_wp2_with fail
          go_ret
          exact RetBb.mk (b' := false) HV.out.symm (below_drewN (Hb0.out.trans (Hb1.out.mono Hb0.out.size)) _)
        · have HV : Hid (polB v xss = sameB (psT 0) xss) := Lib.hid (by simp only [polB, hr, ← Hi.out, ← Hm.out, HL.out, h1]; simp)
          have HR := Lib.hid hr; clear hr
          go_wp2_with fail
          refine (rising_any A n c _ xss _ (H.out.below Hb1.out) (by omega) (by have := HX.out; omega)).mono ?_
          rintro e w2 ⟨rfl, q2, rfl⟩
          rw [HR.out]
          go_wp2_with fail
          refine (sameDegreeS_any A n c xss _ ((H.out.below (below_drewN Hb1.out q2)).mono Hb1.out.size) hn HX.out).mono ?_
          rintro e w3 ⟨rfl, hb3⟩
          have Hb3 := Lib.hid ((below_drewN Hb1.out q2).trans (hb3.mono Hb1.out.size)); clear hb3
          go_wp2_with fail
          go_ret
          exact RetBb.mk HV.out.symm (Hb0.out.trans (Hb3.out.mono Hb0.out.size))
    · have HV : Hid (polB v xss = false) := Lib.hid (by simp [polB, HL.out, h1])
      have hd1 : decide ((n : Int) ≤ 2000) = false := by simp; omega
      go_wp2_with fail
      go_ret
      exact RetBb.mk (b' := false) HV.out.symm (Hb0.out.trans (Hb1.out.mono Hb0.out.size))
end Go.Proofs.YtoodhbafleemjaaGreat

/- IsPoly on both sides: the reference. -/
namespace Go.Proofs.YtoodhbafleemjaaGreat
open Go.RowKit
set_option linter.unusedVariables false

def okm (v : Int) (x0 x : List Int) : Bool := monB v x && decide (psT 0 x = psT 0 x0)
theorem polB_eq (v : Int) (xss : List (List Int)) : polB v xss = (inB v 1 4 && decide (xss.length ≤ 2000) && risB xss && xss.all (okm v (xss.headD []))) := by
  have h : xss.all (okm v (xss.headD [])) = (xss.all (monB v) && sameB (psT 0) xss) := by
    rw [Bool.eq_iff_iff]
    simp only [Bool.and_eq_true, List.all_eq_true, sameB, okm]
    exact ⟨fun h => ⟨fun x hx => (h x hx).1, fun x hx => (h x hx).2⟩, fun h x hx => ⟨h.1 x hx, h.2 x hx⟩⟩
  rw [h]
  unfold polB
  cases inB v 1 4 <;> cases decide (xss.length ≤ 2000) <;> cases risB xss <;> cases xss.all (monB v) <;> cases sameB (psT 0) xss <;> rfl
theorem degsB_no {xs : List Int} {k : Nat} {x : Int} (hx : Hid (xs[k]? = some x)) (h : inB x 0 40 = false) : degsB xs = false := by
  rw [degsB, List.all_eq_false]
  exact ⟨x, mem_of hx, by simp [h]⟩

set_option maxHeartbeats 1000000 in
theorem l08Is_any (v : Int) (A : Option Addr) (n c : Nat) (xss : List (List Int)) (w : World) (h : RdL w w.heap.size A n c xss) (hn : n ≤ 2000000) (ht : totalL xss ≤ 2000000) :
    Calls Tryz.prog 63 #[.agg #[.int .i64 v, .slice A n c]] w (RetBb (polB v xss) w) := by
  have HX := Lib.hid (fun (x : List Int) (hx : x ∈ xss) => Nat.le_trans (len_le_of_total hx) ht)
  have HT := Lib.hid ht; clear ht
  have HL := Lib.hid h.len
  obtain ⟨w0, hw0⟩ : ∃ w0, w0 = w.alloc (.cells #[.int .i64 v, .slice A n c] 26) := ⟨_, rfl⟩
  obtain ⟨b, hb⟩ : ∃ b, b = w.heap.size := ⟨_, rfl⟩
  have hB0 : Below w.heap.size w w0 := by rw [hw0]; exact (Below.refl _ _).alloc (Nat.le_refl _) _
  have hc0 : w0.cell? ⟨b, 0, none⟩ = some (.int .i64 v) := by rw [hw0, hb]; simp
  have hc1 : w0.cell? ⟨b, 1, none⟩ = some (.slice A n c) := by rw [hw0, hb]; simp
  have H := Lib.hid (h.below hB0); clear h
  have HB0 := Lib.hid hB0; clear hB0
  have Hw := Lib.hid hw0; clear hw0
  have Hbe := Lib.hid hb; clear hb
  rw [polB_eq]
  obtain ⟨R, hR⟩ : ∃ R, R = (inB v 1 4 && decide (xss.length ≤ 2000) && risB xss && xss.all (okm v (xss.headD []))) := ⟨_, rfl⟩
  have HR := Lib.hid hR
  rw [← hR]
  clear hR
  obtain ⟨i, hi⟩ : ∃ i, i = inB v 1 4 := ⟨_, rfl⟩
  have Hi := Lib.hid hi; clear hi
  go_enter Tryz.func63, Tryz.ntmps63
  go_wp2_with fail
  rw [← Hw.out, ← Hbe.out]
  refine (l01In_any _ _ _ _).mono ?_
  rintro e w1 ⟨rfl, rfl⟩
  rw [← Hi.out]
  cases i
  · have HV : Hid (R = false) := Lib.hid (by rw [HR.out, ← Hi.out]; rfl)
    go_wp2_with fail
    go_ret
    exact RetBb.mk (b' := false) HV.out.symm HB0.out
  by_cases h1 : n ≤ 2000
  · have hd1 : decide ((2000 : Int) < (n : Int)) = false := by simp; omega
    have HA := fun W : Nat => Lib.hid (ascending_any A n c _ xss (w1.drewN W) (H.out.drewN W) (by omega) (by have := HT.out; omega))
    cases hr : risB xss
    · have HV : Hid (R = false) := Lib.hid (by rw [HR.out, hr]; simp)
      rw [hr] at HA; clear hr
      go_wp2_with fail
      refine (HA 0).out.mono ?_
      rintro e w2 ⟨rfl, q, rfl⟩
      go_wp2_with fail
      go_ret
      exact RetBb.mk (b' := false) HV.out.symm (below_drewN HB0.out q)
    · have HV : Hid (R = xss.all (okm v (xss.headD []))) := Lib.hid (by rw [HR.out, hr, ← Hi.out, show decide (xss.length ≤ 2000) = true from by simp [HL.out, h1]]; rfl)
      rw [hr] at HA; clear hr
      go_wp2_with fail
      refine (HA 0).out.mono ?_
      rintro e w2 ⟨rfl, q0, rfl⟩
      go_wp2_with fail
      go_loopw [3, 4, 5] (fun i _ _ wr => ∃ k : Nat, k ≤ n ∧ i = .int .i64 k ∧ Hid ((xss.take k).all (okm v (xss.headD [])) = true) ∧ ∃ q, wr = w1.drewN q) (fun i _ _ _ => n - (intOf i).toNat)
      case atStart => exact ⟨0, Nat.zero_le _, rfl, Lib.hid (by simp), (by first | exact ⟨_, rfl⟩ | exact ⟨_, World.drewN_drewN _ _ _⟩ | (simp only [World.drewN_drewN]; exact ⟨_, rfl⟩))⟩
      case round =>
        obtain ⟨k, hk, rfl, HK, q, rfl⟩ := hrel
        clear HA
        by_cases hlt : k < n
        · obtain ⟨ad, A1, n1, c1, x, rfl, _, hx, hcr, hr1⟩ := H.out.at_ hlt
          obtain ⟨ad', A0, n0, c0, x0, had, _, hx0, hcr0, hr0⟩ := H.out.at_ (show 0 < n by omega)
          obtain rfl : ad = ad' := by simpa using had
          clear had
          have hc00 : w1.cell? ad = some (.slice A0 n0 c0) := by simpa [Addr.add] using hcr0
          clear hcr0
          have hh : xss.headD [] = x0 := by
            have := hx0.out
            cases xss with
            | nil => simp at this
            | cons y ys => simpa using this
          have hn1 : n1 ≤ 2000000 := by rw [← hr1.len]; exact HX.out x (List.mem_of_getElem? hx.out)
          have hn0 : n0 ≤ 2000000 := by rw [← hr0.len]; exact HX.out x0 (List.mem_of_getElem? hx0.out)
          have Hl1 := Lib.hid hr1.len
          have hpos : (0 : Int) < (n : Int) := by omega
          have hk0 : (0 : Int) ≤ (k : Int) := by omega
          have hkn : (k : Int) < (n : Int) := by omega
          have Hs1 := fun W : Nat => Lib.hid (deg_any A1 n1 c1 _ x (w1.drewN W) (hr1.drewN W) (by omega))
          have Hs0 := fun W : Nat => Lib.hid (deg_any A0 n0 c0 _ x0 (w1.drewN W) (hr0.drewN W) (by omega))
          rw [hh] at HV HK
          have Hh := Lib.hid hh
          have H1 := Lib.hid hr1
          clear hr1 hr0 hh
          by_cases hlv : (n1 : Int) = v
          · have hne1 : ((n1 : Int) != v) = false := by simpa using hlv
            have HLV := Lib.hid hlv
            clear hlv
            go_wp2_with fail
            go_quiet (fail)
            rename_i nq
            go_wp2_with fail
            go_loopw [4] (fun i wr => ∃ j : Nat, j ≤ n1 ∧ i = .int .i64 j ∧ Hid (degsB (x.take j) = true) ∧ ∃ q, wr = w1.drewN q) (fun i _ => n1 - (intOf i).toNat)
            case atStart => exact ⟨0, Nat.zero_le _, rfl, Lib.hid rfl, (by first | exact ⟨_, rfl⟩ | exact ⟨_, World.drewN_drewN _ _ _⟩ | (simp only [World.drewN_drewN]; exact ⟨_, rfl⟩))⟩
            case round =>
              obtain ⟨j, hj, rfl, HF, q5, rfl⟩ := hrel
              by_cases hjt : j < n1
              · obtain ⟨ad1, y, rfl, _, hy, hcy⟩ := H1.out.at_ hjt
                cases hi : inB y 0 40
                · have HI := Lib.hid hi; clear hi
                  have HN : Hid (R = false) := Lib.hid (by rw [HV.out]; exact all_no hx (Lib.hid (by simp [okm, monB, degsB_no hy HI.out])))
                  go_wp2_with fail
                  refine (l01In_any _ _ _ _).mono ?_
                  rintro e w' ⟨rfl, rfl⟩
                  rw [HI.out]
                  go_wp2_with fail
                  go_ret
                  exact RetBb.mk (b' := false) HN.out.symm (by first | exact below_drewN HB0.out _ | exact below_drewN (below_drewN HB0.out _) _)
                · have HI := Lib.hid hi; clear hi
                  go_wp2_with fail
                  refine (l01In_any _ _ _ _).mono ?_
                  rintro e w' ⟨rfl, rfl⟩
                  rw [HI.out]
                  go_wp2_with fail
                  go_roundw
                  case rel => exact ⟨j + 1, by omega, by go_num, Lib.hid (by
                    have h1 := HF.out
                    rw [take_succ_of hy]
                    unfold degsB at h1 ⊢
                    rw [List.all_append, h1]
                    simp [HI.out]), (by first | exact ⟨_, rfl⟩ | exact ⟨_, World.drewN_drewN _ _ _⟩ | (simp only [World.drewN_drewN]; exact ⟨_, rfl⟩))⟩
                  case measure => simp [intOf]; omega
              · obtain rfl : j = n1 := by omega
                have hfa : degsB x = true := by have h1 := HF.out; rwa [List.take_of_length_le (by rw [Hl1.out]; omega)] at h1
                have HM : Hid (okm v x0 x = (decide (psT 0 x ≤ 40) && decide (psT 0 x = psT 0 x0))) := Lib.hid (by simp [okm, monB, hfa, Hl1.out, HLV.out])
                obtain ⟨t, ht⟩ : ∃ t, t = psT 0 x := ⟨_, rfl⟩
                obtain ⟨u, hu⟩ : ∃ u, u = psT 0 x0 := ⟨_, rfl⟩
                rw [← ht] at Hs1 HM
                rw [← hu] at Hs0 HM
                clear ht hu hfa
                by_cases ht40 : t ≤ 40
                · have hd2 : decide ((40 : Int) < t) = false := by simp; omega
                  by_cases htu : t = u
                  · have HN : Hid (okm v x0 x = true) := Lib.hid (by rw [HM.out, ← htu]; simp [ht40])
                    subst htu
                    have hne2 : (t != t) = false := by simp
                    go_wp2_with fail
                    refine (Hs1 _).out.mono ?_
                    rintro e w' ⟨rfl, rfl⟩
                    go_wp2_with fail
                    refine (Hs0 _).out.mono ?_
                    rintro e w' ⟨rfl, rfl⟩
                    go_wp2_with fail
                    go_roundw
                    case rel => exact ⟨k + 1, by omega, by go_num, Lib.hid (by rw [Hh.out]; exact all_take_succL hx HK HN), (by first | exact ⟨_, rfl⟩ | exact ⟨_, World.drewN_drewN _ _ _⟩ | (simp only [World.drewN_drewN]; exact ⟨_, rfl⟩))⟩
                    case measure => simp [intOf]; omega
                  · have HN : Hid (R = false) := Lib.hid (by rw [HV.out]; exact all_no hx (Lib.hid (by rw [HM.out]; simp [htu])))
                    have hne1 : (t == u) = false := by simpa using htu
                    have hne2 : (t != u) = true := by simpa using htu
                    clear htu
                    go_wp2_with fail
                    refine (Hs1 _).out.mono ?_
                    rintro e w' ⟨rfl, rfl⟩
                    go_wp2_with fail
                    refine (Hs0 _).out.mono ?_
                    rintro e w' ⟨rfl, rfl⟩
                    go_wp2_with fail
                    go_ret
                    exact RetBb.mk (b' := false) HN.out.symm (by first | exact below_drewN HB0.out _ | exact below_drewN (below_drewN HB0.out _) _)
                · have hd2 : decide ((40 : Int) < t) = true := by simp; omega
                  have HN : Hid (R = false) := Lib.hid (by rw [HV.out]; exact all_no hx (Lib.hid (by rw [HM.out]; simp [ht40])))
                  go_wp2_with fail
                  refine (Hs1 _).out.mono ?_
                  rintro e w' ⟨rfl, rfl⟩
                  go_wp2_with fail
                  go_ret
                  exact RetBb.mk (b' := false) HN.out.symm (by first | exact below_drewN HB0.out _ | exact below_drewN (below_drewN HB0.out _) _)
          · have hne1 : ((n1 : Int) != v) = true := by simpa using hlv
            have HN : Hid (R = false) := Lib.hid (by rw [HV.out]; exact all_no hx (Lib.hid (by simp [okm, monB, Hl1.out, hlv])))
            clear hlv
            go_wp2_with fail
            go_quiet (fail)
            rename_i nq
            go_wp2_with fail
            go_ret
            exact RetBb.mk (b' := false) HN.out.symm (by first | exact below_drewN HB0.out _ | exact below_drewN (below_drewN HB0.out _) _)
        · go_wp2_with fail
          go_ret
          obtain rfl : k = n := by omega
          exact RetBb.mk (b' := true) (by have h3 := HK.out; rw [List.take_of_length_le (by rw [HL.out]; omega)] at h3; rw [HV.out, h3]) (by first | exact below_drewN HB0.out _ | exact below_drewN (below_drewN HB0.out _) _)
  · have hd1 : decide ((2000 : Int) < (n : Int)) = true := by simp; omega
    have HV : Hid (R = false) := Lib.hid (by rw [HR.out, HL.out, show decide (n ≤ 2000) = false from by simp; omega]; simp)
    go_wp2_with fail
    go_ret
    exact RetBb.mk (b' := false) HV.out.symm HB0.out
end Go.Proofs.YtoodhbafleemjaaGreat

/- Degrees of polynomials; DegreeOfPoly on both sides. -/
namespace Go.Proofs.YtoodhbafleemjaaGreat
open Go.RowKit
set_option linter.unusedVariables false

/-- the degree of terms, and 0 of none -/
def degL (xss : List (List Int)) : Int := psT 0 (xss.headD [])
theorem headD_of {xss : List (List Int)} {x : List Int} (h : xss[0]? = some x) : xss.headD [] = x := by
  cases xss with
  | nil => simp at h
  | cons y ys => simpa using h
theorem degL_nil {xss : List (List Int)} (h : xss.length = 0) : degL xss = 0 := by
  cases xss with
  | nil => rfl
  | cons y ys => simp at h

theorem isZeroP_any (v : Int) (A : Option Addr) (n c : Nat) (w : World) (hn : n ≤ 2000000) : Calls Tryz.prog 46 #[.agg #[.int .i64 v, .slice A n c]] w (RetBb (decide (n = 0)) w) := by
  have hb0 : Below w.heap.size w (w.alloc (.cells #[.int .i64 v, .slice A n c] 26)) := (Below.refl _ _).alloc (Nat.le_refl _) _
  have Hb0 := Lib.hid hb0; clear hb0
  rcases Nat.eq_zero_or_pos n with rfl | h
  · skip
    go_enter Tryz.func46, Tryz.ntmps46
    go_wp2_with fail
    go_ret
    exact RetBb.mk (b' := true) rfl Hb0.out
  · have h1 : ((n : Int) == 0) = false := by simp; omega
    go_enter Tryz.func46, Tryz.ntmps46
    go_wp2_with fail
    go_ret
    exact RetBb.mk (by simp; omega) Hb0.out

theorem isZeroP_yes (v : Int) (A : Option Addr) (c : Nat) (w : World) : Calls Tryz.prog 46 #[.agg #[.int .i64 v, .slice A 0 c]] w (RetBb true w) := isZeroP_any v A 0 c w (by omega)
theorem isZeroP_no (v : Int) (A : Option Addr) (n c : Nat) (w : World) (h : 0 < n) (hn : n ≤ 2000000) : Calls Tryz.prog 46 #[.agg #[.int .i64 v, .slice A n c]] w (RetBb false w) := by
  have := isZeroP_any v A n c w hn
  rwa [decide_eq_false (show ¬ n = 0 by omega)] at this

theorem degreeP_any (v : Int) (A : Option Addr) (n c B : Nat) (xss : List (List Int)) (w : World) (h : RdL w B A n c xss) (hB : B ≤ w.heap.size) (hn : n ≤ 2000000) (ht : totalL xss ≤ 2000000) :
    Calls Tryz.prog 47 #[.agg #[.int .i64 v, .slice A n c]] w (RetIb (degL xss) w) := by
  have HL := Lib.hid h.len
  have hb0 : Below w.heap.size w (w.alloc (.cells #[.int .i64 v, .slice A n c] 26)) := (Below.refl _ _).alloc (Nat.le_refl _) _
  rcases Nat.eq_zero_or_pos n with rfl | hpos
  · have Hb0 := Lib.hid hb0; clear hb0
    have HD := Lib.hid (degL_nil HL.out)
    clear h
    go_enter Tryz.func47, Tryz.ntmps47
    go_wp2_with fail
    go_ret
    exact RetIb.mk (y := 0) HD.out.symm Hb0.out
  · obtain ⟨ad, A3, n3, c3, x0, rfl, hbk, hx0, hc0, hr0⟩ := (h.below (hb0.mono hB)).at_ hpos
    have hn3 : n3 ≤ 2000000 := by rw [← hr0.len]; exact Nat.le_trans (len_le_of_total (List.mem_of_getElem? hx0.out)) ht
    have hc00 : (w.alloc (.cells #[.int .i64 v, .slice (some ad) n c] 26)).cell? ad = some (.slice A3 n3 c3) := by simpa [Addr.add] using hc0
    have HR := Lib.hid hr0
    have HD : Hid (psT 0 x0 = degL xss) := Lib.hid (by rw [degL, headD_of hx0.out])
    have hne : ((n : Int) == 0) = false := by simp; omega
    have hpos' : (0 : Int) < (n : Int) := by omega
    have Hb0 := Lib.hid hb0
    clear hb0 h hr0 hx0 hc0 ht
    go_enter Tryz.func47, Tryz.ntmps47
    go_wp2_with fail
    refine (sum_any A3 n3 c3 _ x0 _ HR.out (by omega)).mono ?_
    rintro e w2 ⟨rfl, rfl⟩
    rw [HD.out]
    go_wp2_with fail
    go_ret
    exact RetIb.mk rfl Hb0.out

theorem l08Degree_any (A : Option Addr) (n c B : Nat) (xss : List (List Int)) (w : World) (h : RdL w B A n c xss) (hn : n ≤ 2000000) (ht : totalL xss ≤ 2000000) :
    Calls Tryz.prog 52 #[.slice A n c] w (RetI (degL xss) w) := by
  have HL := Lib.hid h.len
  rcases Nat.eq_zero_or_pos n with rfl | hpos
  · have HD := Lib.hid (degL_nil HL.out)
    clear h
    go_enter Tryz.func52, Tryz.ntmps52
    go_wp2_with fail
    go_ret
    exact RetI.mk (y := 0) HD.out.symm
  · obtain ⟨ad, A3, n3, c3, x0, rfl, hbk, hx0, hc0, hr0⟩ := h.at_ hpos
    have hn3 : n3 ≤ 2000000 := by rw [← hr0.len]; exact Nat.le_trans (len_le_of_total (List.mem_of_getElem? hx0.out)) ht
    have hc00 : w.cell? ad = some (.slice A3 n3 c3) := by simpa [Addr.add] using hc0
    have HR := Lib.hid hr0
    have HD : Hid (psT 0 x0 = degL xss) := Lib.hid (by rw [degL, headD_of hx0.out])
    have hne : ((n : Int) == 0) = false := by simp; omega
    have hpos' : (0 : Int) < (n : Int) := by omega
    clear h hr0 hx0 hc0 ht
    go_enter Tryz.func52, Tryz.ntmps52
    go_wp2_with fail
    refine (deg_any A3 n3 c3 _ x0 _ HR.out (by omega)).mono ?_
    rintro e w2 ⟨rfl, rfl⟩
    rw [HD.out]
    go_wp2_with fail
    go_ret
    exact RetI.mk rfl

def dopO (v : Int) (xss : List (List Int)) : Int × Int := if polB v xss then (if xss.isEmpty then (0, 5) else (degL xss, 0)) else (0, 1)
theorem dopO_bad {v : Int} {xss : List (List Int)} (h : polB v xss = false) : dopO v xss = (0, 1) := by simp [dopO, h]
theorem dopO_nil {v : Int} {xss : List (List Int)} (h : polB v xss = true) (h2 : xss.length = 0) : dopO v xss = (0, 5) := by
  have : xss = [] := List.eq_nil_of_length_eq_zero h2
  subst this
  unfold dopO
  rw [if_pos h]; rfl
theorem dopO_ok {v : Int} {xss : List (List Int)} (h : polB v xss = true) (h2 : 0 < xss.length) : dopO v xss = (degL xss, 0) := by
  have : xss.isEmpty = false := by cases xss with | nil => simp at h2 | cons x xs => rfl
  simp only [dopO, h, this]; rfl
theorem polB_len {v : Int} {xss : List (List Int)} (h : polB v xss = true) : xss.length ≤ 2000 := by
  simp only [polB, Bool.and_eq_true, decide_eq_true_eq] at h
  exact h.1.1.1.2

theorem rdL_here {w w1 : World} {A : Option Addr} {n c : Nat} {xss : List (List Int)} (h : RdL w w.heap.size A n c xss) (hb : Below w.heap.size w w1) : RdL w1 w1.heap.size A n c xss := (h.below hb).mono hb.size

theorem iDegreeOfPoly (v : Int) (A : Option Addr) (n c : Nat) (xss : List (List Int)) (w : World) (h : RdL w w.heap.size A n c xss) (hn : n ≤ 2000000) (ht : totalL xss ≤ 2000000) :
    Calls Tryz.prog 18 #[.agg #[.int .i64 v, .slice A n c]] w (RetIIC (dopO v xss).1 (dopO v xss).2 w) := by
  obtain ⟨w0, hw0⟩ : ∃ w0, w0 = w.alloc (.cells #[.int .i64 v, .slice A n c] 26) := ⟨_, rfl⟩
  obtain ⟨b, hb⟩ : ∃ b, b = w.heap.size := ⟨_, rfl⟩
  have hB0 : Below w.heap.size w w0 := by rw [hw0]; exact (Below.refl _ _).alloc (Nat.le_refl _) _
  have hlt : b < w0.heap.size := by rw [hw0, hb]; simp
  have k0 : w0.cell? ⟨b, 0, none⟩ = some (.int .i64 v) := by rw [hw0, hb]; simp
  have k1 : w0.cell? ⟨b, 1, none⟩ = some (.slice A n c) := by rw [hw0, hb]; simp
  have HL := Lib.hid h.len
  have H := Lib.hid (rdL_here h hB0); clear h
  have B0 := Lib.hid hB0; clear hB0
  have Hw := Lib.hid hw0; clear hw0
  have Hbe := Lib.hid hb; clear hb
  have K0 := Lib.hid k0
  have K1 := Lib.hid k1
  obtain ⟨r1, hr1⟩ : ∃ r, r = polB v xss := ⟨_, rfl⟩
  have HR1 := Lib.hid hr1; clear hr1
  go_enter Tryz.func18, Tryz.ntmps18
  go_wp2_with fail
  rw [← Hw.out, ← Hbe.out]
  refine (iIsPoly v A n c xss _ H.out hn ht).mono ?_
  rintro e w1 ⟨rfl, hb1⟩
  rw [← HR1.out]
  have X1 := Lib.hid hb1; clear hb1
  have k0 := bcell X1.out hlt K0.out
  have k1 := bcell X1.out hlt K1.out
  cases r1
  · have HV := Lib.hid (dopO_bad HR1.out.symm)
    go_wp2_with fail
    go_ret2
    exact RetIIC.mk (v' := 0) (k' := 1) (by rw [HV.out]) (by rw [HV.out]) (B0.out.trans (X1.out.mono B0.out.size))
  · go_wp2_with fail
    refine (isZeroP_any v A n c _ hn).mono ?_
    rintro e w2 ⟨rfl, hb2⟩
    have X2 := Lib.hid (X1.out.trans (hb2.mono X1.out.size)); clear hb2
    have k0 := bcell X2.out hlt K0.out
    have k1 := bcell X2.out hlt K1.out
    rcases Nat.eq_zero_or_pos n with hz | hz
    · rw [decide_eq_true hz]
      have HV := Lib.hid (dopO_nil HR1.out.symm (by rw [HL.out]; exact hz))
      clear hz
      go_wp2_with fail
      go_ret2
      exact RetIIC.mk (v' := 0) (k' := 5) (by rw [HV.out]) (by rw [HV.out]) (B0.out.trans (X2.out.mono B0.out.size))
    · rw [decide_eq_false (show ¬ n = 0 by omega)]
      have HV := Lib.hid (dopO_ok HR1.out.symm (by rw [HL.out]; exact hz))
      clear hz
      go_wp2_with fail
      refine (degreeP_any v A n c _ xss _ (rdL_here H.out X2.out) (Nat.le_refl _) hn ht).mono ?_
      rintro e w3 ⟨rfl, hb3⟩
      have X3 := Lib.hid (X2.out.trans (hb3.mono X2.out.size)); clear hb3
      go_wp2_with fail
      go_ret2
      exact RetIIC.mk (by rw [HV.out]) (k' := 0) (by rw [HV.out]) (B0.out.trans (X3.out.mono B0.out.size))

end Go.Proofs.YtoodhbafleemjaaGreat

/- The law package's helpers on Poly. -/
namespace Go.Proofs.YtoodhbafleemjaaGreat
open Go.RowKit
set_option linter.unusedVariables false

/-- a struct of a number and an owned list of lists comes back -/
def RetN (v : Int) (n : Nat) (xss : List (List Int)) (w : World) (e : Ending) (w' : World) : Prop :=
  ∃ A c, e = .returned (.agg #[.int .i64 v, .slice A n c]) ∧ OwnM w' w.heap.size w'.heap.size A n c xss ∧ Below w.heap.size w w'
def RetNC (v : Int) (n : Nat) (xss : List (List Int)) (k : Int) (w : World) (e : Ending) (w' : World) : Prop :=
  ∃ A c, e = .returned (.tuple #[.agg #[.int .i64 v, .slice A n c], .int .i64 k]) ∧ OwnM w' w.heap.size w'.heap.size A n c xss ∧ Below w.heap.size w w'

end Go.Proofs.YtoodhbafleemjaaGreat
