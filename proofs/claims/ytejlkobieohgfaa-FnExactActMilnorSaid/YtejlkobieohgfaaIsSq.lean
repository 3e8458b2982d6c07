/- Sums of squares on both sides: isWord, l03Word, IsSquares, l03Is. -/
import Derived.Test.YtejlkobieohgfaaKam
namespace Go.Proofs.Ytejlkobieohgfaa
open Go.RowKit
set_option linter.unusedVariables false

def letB (xs : List Int) : Bool := xs.all (fun x => inB x 1 40)
def wrdB (xs : List Int) : Bool := decide (xs.length ≤ 20) && letB xs && decide (psT 0 xs ≤ 40)
theorem isWord1_any (n : Int) (w : World) : Calls Try.prog 162 #[.int .i64 n] w (RetP (inB n 1 40) w) := by
  go_enter Try.func162, Try.ntmps162
  go_wp2_with fail
  refine (in_any _ _ _ _).mono ?_
  rintro e w' ⟨rfl, rfl⟩
  go_wp2_with fail
  go_ret
  exact RetP.mk rfl
theorem letAll_any (A : Option Addr) (n c : Nat) (xs : List Int) (w : World) (h : RdS w w.heap.size A n c xs) (hn : n ≤ 2000000) :
    Calls Try.prog 113 #[.slice A n c, .func (.func 162) #[] #[]] w (RetBb (letB xs) w) := by
  have hl := h.len
  refine (allI_any A n c xs _ _ _ w h hn (cond_of (fun x => inB x 1 40) (enters_of Try.func162 (by kernel_rfl) rfl) isWord1_any xs w)).mono ?_
  intro e w' hw
  rw [all_range xs (fun x => inB x 1 40) _ n hl (fun j hj => by simp [List.getElem?_eq_getElem hj])] at hw
  exact hw
theorem isWord_any (A : Option Addr) (n c : Nat) (xs : List Int) (w : World) (h : RdS w w.heap.size A n c xs) (hn : n ≤ 2000000) :
    Calls Try.prog 141 #[.slice A n c] w (RetBb (wrdB xs) w) := by
  have Hl := Lib.hid h.len
  have H := Lib.hid h; clear h
  by_cases h7 : n ≤ 20
  · cases hf : letB xs
    · have HV : Hid (wrdB xs = false) := Lib.hid (by simp [wrdB, hf])
      have HF := Lib.hid hf; clear hf
      go_enter Try.func141, Try.ntmps141
      go_wp2_with fail
      refine (letAll_any A n c xs _ H.out (by omega)).mono ?_
      rintro e w1 ⟨rfl, hb1⟩
      rw [HF.out]
      go_wp2_with fail
      go_ret
      exact RetBb.mk (b' := false) HV.out.symm hb1
    · obtain ⟨t, ht⟩ : ∃ t, t = psT 0 xs := ⟨_, rfl⟩
      have HV : Hid (wrdB xs = decide (t ≤ 40)) := Lib.hid (by simp [wrdB, hf, Hl.out, h7, ht])
      have HF := Lib.hid hf; clear hf
      have HT := Lib.hid ht
      clear ht
      go_enter Try.func141, Try.ntmps141
      go_wp2_with fail
      refine (letAll_any A n c xs _ H.out (by omega)).mono ?_
      rintro e w1 ⟨rfl, hb1⟩
      rw [HF.out]
      have HB1 := Lib.hid hb1; clear hb1
      go_wp2_with fail
      refine (sum_any A n c _ xs _ (H.out.below HB1.out) (by omega)).mono ?_
      rintro e w2 ⟨rfl, rfl⟩
      rw [← HT.out]
      go_wp2_with fail
      go_ret
      exact RetBb.mk (b' := decide (t ≤ 40)) HV.out.symm HB1.out
  · have HV : Hid (wrdB xs = false) := Lib.hid (by simp [wrdB, Hl.out, h7])
    go_enter Try.func141, Try.ntmps141
    go_wp2_with fail
    go_ret
    exact RetBb.mk (b' := false) HV.out.symm (Below.refl _ _)

theorem deg03_any (A : Option Addr) (n c B : Nat) (xs : List Int) (w : World) (h : RdS w B A n c xs) (hn : n ≤ 1000000000000) :
    Calls Try.prog 99 #[.slice A n c] w (RetI (psT 0 xs) w) := by
  have Hl := Lib.hid h.len
  obtain ⟨R, hR⟩ : ∃ R, R = psT 0 xs := ⟨_, rfl⟩
  have HR := Lib.hid hR
  rw [← hR]
  clear hR
  go_enter Try.func99, Try.ntmps99
  go_wp2_with fail
  go_loop [3, 4] (fun t i => ∃ (k : Nat) (s : Int), k ≤ n ∧ i = .int .i64 k ∧ t = .int .i64 s ∧ Hid (s = psT 0 (xs.take k))) (fun _ i => n - (intOf i).toNat)
  case atStart => exact ⟨0, 0, Nat.zero_le _, rfl, rfl, Lib.hid rfl⟩
  case round =>
    obtain ⟨k, s, hk, rfl, rfl, HS⟩ := hrel
    by_cases hlt : k < n
    · obtain ⟨ad, x, rfl, _, hx, hc⟩ := h.at_ hlt
      go_wp2_with fail
      go_round
      case rel => exact ⟨k+1, wrap64 (s + x), by omega, by go_num, rfl, Lib.hid (by rw [take_succ_of hx, psT_snoc, ← HS.out])⟩
      case measure => simp [intOf]; omega
    · go_wp2_with fail
      go_ret
      obtain rfl : k = n := by omega
      refine RetI.mk (y := s) ?_
      rw [HS.out, HR.out, List.take_of_length_le (by rw [Hl.out]; omega)]
theorem letB_no {xs : List Int} {k : Nat} {x : Int} (hx : Hid (xs[k]? = some x)) (h : inB x 1 40 = false) : letB xs = false := by
  rw [letB, List.all_eq_false]
  exact ⟨x, mem_of hx, by simp [h]⟩
theorem l03Word_any (A : Option Addr) (n c B : Nat) (xs : List Int) (w : World) (h : RdS w B A n c xs) (hn : n ≤ 2000000) :
    Calls Try.prog 140 #[.slice A n c] w (RetP (wrdB xs) w) := by
  have Hl := Lib.hid h.len
  have H := Lib.hid h; clear h
  by_cases h7 : n ≤ 20
  · go_enter Try.func140, Try.ntmps140
    go_wp2_with fail
    go_loop [3] (fun i => ∃ k : Nat, k ≤ n ∧ i = .int .i64 k ∧ Hid (letB (xs.take k) = true)) (fun i => n - (intOf i).toNat)
    case atStart => exact ⟨0, Nat.zero_le _, rfl, Lib.hid rfl⟩
    case round =>
      obtain ⟨k, hk, rfl, HF⟩ := hrel
      by_cases hlt : k < n
      · obtain ⟨ad, x, rfl, _, hx, hc⟩ := H.out.at_ hlt
        cases hi : inB x 1 40
        · have HI := Lib.hid hi; clear hi
          go_wp2_with fail
          refine (l01In_any _ _ _ _).mono ?_
          rintro e w' ⟨rfl, rfl⟩
          rw [HI.out]
          go_wp2_with fail
          go_ret
          exact RetP.mk (b' := false) (by simp [wrdB, letB_no hx HI.out])
        · have HI := Lib.hid hi; clear hi
          go_wp2_with fail
          refine (l01In_any _ _ _ _).mono ?_
          rintro e w' ⟨rfl, rfl⟩
          rw [HI.out]
          go_wp2_with fail
          go_round
          case rel => exact ⟨k + 1, by omega, by go_num, Lib.hid (by
            have h1 := HF.out
            rw [take_succ_of hx]
            unfold letB at h1 ⊢
            rw [List.all_append, h1]
            simp [HI.out])⟩
          case measure => simp [intOf]; omega
      · obtain rfl : k = n := by omega
        have hfa : letB xs = true := by have h1 := HF.out; rwa [List.take_of_length_le (by rw [Hl.out]; omega)] at h1
        obtain ⟨t, ht⟩ : ∃ t, t = psT 0 xs := ⟨_, rfl⟩
        have HV : Hid (wrdB xs = decide (t ≤ 40)) := Lib.hid (by simp [wrdB, hfa, Hl.out, h7, ht])
        have HT := Lib.hid ht
        clear ht hfa
        go_wp2_with fail
        refine (deg03_any A k c _ xs _ H.out (by omega)).mono ?_
        rintro e w2 ⟨rfl, rfl⟩
        rw [← HT.out]
        go_wp2_with fail
        go_ret
        exact RetP.mk (b' := decide (t ≤ 40)) HV.out.symm
  · have HV : Hid (wrdB xs = false) := Lib.hid (by simp [wrdB, Hl.out, h7])
    go_enter Try.func140, Try.ntmps140
    go_wp2_with fail
    go_ret
    exact RetP.mk (b' := false) HV.out.symm

def isSqB (xss : List (List Int)) : Bool := decide (xss.length ≤ 2000) && risB xss && xss.all wrdB && sameB (psT 0) xss
theorem wrdAll_any (A : Option Addr) (n c : Nat) (xss : List (List Int)) (w : World) (h : RdL w w.heap.size A n c xss) (hn : n ≤ 2000000) (hx : ∀ x ∈ xss, x.length ≤ 2000000) :
    Calls Try.prog 127 #[.slice A n c, .func (.func 141) #[] #[]] w (RetBb (xss.all wrdB) w) := by
  have hl := h.len
  have := allL_any A n c xss _ _ _ w h hn (condL_of wrdB (enters_of Try.func141 (by kernel_rfl) rfl) xss (fun A n c xs w hm hr => isWord_any A n c xs w hr (by rw [← hr.len]; exact hx xs hm)) w)
  rw [allR_rows wrdB hl] at this
  exact this
theorem iIsSquares (A : Option Addr) (n c : Nat) (xss : List (List Int)) (w : World) (h : RdL w w.heap.size A n c xss) (hn : n ≤ 2000000) (ht : totalL xss ≤ 2000000) :
    Calls Try.prog 101 #[.agg #[.slice A n c]] w (RetBb (isSqB xss) w) := by
  have hx : ∀ x ∈ xss, x.length ≤ 2000000 := fun x hx => Nat.le_trans (len_le_of_total hx) ht
  have hl := h.len
  have hb0 : Below w.heap.size w (w.alloc (.cells #[.slice A n c] 25)) := (Below.refl _ _).alloc (Nat.le_refl _) _
  have H := Lib.hid ((h.below hb0).mono hb0.size); clear h
  have HX := Lib.hid hx; clear hx
  have HL := Lib.hid hl; clear hl
  have Hb0 := Lib.hid hb0; clear hb0
  have HC : Hid ((w.alloc (.cells #[.slice A n c] 25)).cell? ⟨w.heap.size, 0, none⟩ = some (.slice A n c)) := Lib.hid (by simp)
  by_cases h1 : n ≤ 2000
  · cases hr : risB xss
    · have HV : Hid (isSqB xss = false) := Lib.hid (by simp [isSqB, hr])
      have HR := Lib.hid hr; clear hr
      go_enter Try.func101, Try.ntmps101
      go_wp2_with fail
      refine (rising_any A n c _ xss _ H.out (by omega) (by omega)).mono ?_
      rintro e w2 ⟨rfl, q2, rfl⟩
      rw [HR.out]
      go_wp2_with fail
      go_ret
      exact RetBb.mk (b' := false) HV.out.symm (below_drewN Hb0.out _)
    · obtain ⟨m, hm⟩ : ∃ m, m = xss.all wrdB := ⟨_, rfl⟩
      have HM := Lib.hid hm; clear hm
      have HR := Lib.hid hr; clear hr
      go_enter Try.func101, Try.ntmps101
      go_wp2_with fail
      refine (rising_any A n c _ xss _ H.out (by omega) (by omega)).mono ?_
      rintro e w2 ⟨rfl, q2, rfl⟩
      rw [HR.out]
      have hb2 := below_drewN (Below.refl (w.alloc (.cells #[.slice A n c] 25)).heap.size (w.alloc (.cells #[.slice A n c] 25))) q2
      have hc2 := box_cell hb2 HC.out
      have Hb2 := Lib.hid hb2; clear hb2
      go_wp2_with fail
      refine (wrdAll_any A n c xss _ ((H.out.below Hb2.out).mono Hb2.out.size) hn HX.out).mono ?_
      rintro e w3 ⟨rfl, hb3⟩
      rw [← HM.out]
      have Hb3 := Lib.hid (Hb2.out.trans (hb3.mono Hb2.out.size)); clear hb3 hc2
      have hc3 := box_cell Hb3.out HC.out
      cases m
      · have HV : Hid (isSqB xss = false) := Lib.hid (by simp [isSqB, ← HM.out])
        go_wp2_with fail
        go_ret
        exact RetBb.mk (b' := false) HV.out.symm (Hb0.out.trans (Hb3.out.mono Hb0.out.size))
      · have HV : Hid (isSqB xss = sameB (psT 0) xss) := Lib.hid (by simp only [isSqB, ← HM.out, HR.out, HL.out, h1]; simp)
        go_wp2_with fail
        refine (sameDegreeS_any A n c xss _ ((H.out.below Hb3.out).mono Hb3.out.size) hn HX.out).mono ?_
        rintro e w4 ⟨rfl, hb4⟩
        have Hb4 := Lib.hid (Hb3.out.trans (hb4.mono Hb3.out.size)); clear hb4
        go_wp2_with fail
        go_ret
        exact RetBb.mk HV.out.symm (Hb0.out.trans (Hb4.out.mono Hb0.out.size))
  · have HV : Hid (isSqB xss = false) := Lib.hid (by simp [isSqB, HL.out, h1])
    go_enter Try.func101, Try.ntmps101
    go_wp2_with fail
    go_ret
    exact RetBb.mk (b' := false) HV.out.symm Hb0.out

def oks (x0 x : List Int) : Bool := wrdB x && decide (psT 0 x = psT 0 x0)
theorem isSqB_eq (xss : List (List Int)) : isSqB xss = (decide (xss.length ≤ 2000) && risB xss && xss.all (oks (xss.headD []))) := by
  have h : xss.all (oks (xss.headD [])) = (xss.all wrdB && sameB (psT 0) xss) := by
    rw [Bool.eq_iff_iff]
    simp only [Bool.and_eq_true, List.all_eq_true, sameB, oks]
    exact ⟨fun h => ⟨fun x hx => (h x hx).1, fun x hx => (h x hx).2⟩, fun h x hx => ⟨h.1 x hx, h.2 x hx⟩⟩
  rw [h]
  simp only [isSqB, Bool.and_assoc]

set_option maxHeartbeats 1000000 in
theorem l03Is_any (A : Option Addr) (n c : Nat) (xss : List (List Int)) (w : World) (h : RdL w w.heap.size A n c xss) (hn : n ≤ 2000000) (ht : totalL xss ≤ 2000000) :
    Calls Try.prog 98 #[.agg #[.slice A n c]] w (RetBb (isSqB xss) w) := by
  have HX := Lib.hid (fun (x : List Int) (hx : x ∈ xss) => Nat.le_trans (len_le_of_total hx) ht)
  have HT := Lib.hid ht; clear ht
  have HL := Lib.hid h.len
  obtain ⟨w0, hw0⟩ : ∃ w0, w0 = w.alloc (.cells #[.slice A n c] 25) := ⟨_, rfl⟩
  obtain ⟨b, hb⟩ : ∃ b, b = w.heap.size := ⟨_, rfl⟩
  have hB0 : Below w.heap.size w w0 := by rw [hw0]; exact (Below.refl _ _).alloc (Nat.le_refl _) _
  have hc1 : w0.cell? ⟨b, 0, none⟩ = some (.slice A n c) := by rw [hw0, hb]; simp
  have H := Lib.hid (h.below hB0); clear h
  have HB0 := Lib.hid hB0; clear hB0
  have Hw := Lib.hid hw0; clear hw0
  have Hbe := Lib.hid hb; clear hb
  rw [isSqB_eq]
  obtain ⟨R, hR⟩ : ∃ R, R = (decide (xss.length ≤ 2000) && risB xss && xss.all (oks (xss.headD []))) := ⟨_, rfl⟩
  have HR := Lib.hid hR
  rw [← hR]
  clear hR
  by_cases h1 : n ≤ 2000
  · have hd1 : decide ((2000 : Int) < (n : Int)) = false := by simp; omega
    have HA := fun W : Nat => Lib.hid (ascending_any A n c _ xss (w0.drewN W) (H.out.drewN W) (by omega) (by have := HT.out; omega))
    cases hr : risB xss
    · have HV : Hid (R = false) := Lib.hid (by rw [HR.out, hr]; simp)
      rw [hr] at HA; clear hr
      go_enter Try.func98, Try.ntmps98
      go_wp2_with fail
      rw [← Hw.out, ← Hbe.out]
      go_wp2_with fail
      refine (HA 0).out.mono ?_
      rintro e w2 ⟨rfl, q, rfl⟩
      go_wp2_with fail
      go_ret
      exact RetBb.mk (b' := false) HV.out.symm (below_drewN HB0.out q)
    · have HV : Hid (R = xss.all (oks (xss.headD []))) := Lib.hid (by rw [HR.out, hr, show decide (xss.length ≤ 2000) = true from by simp [HL.out, h1]]; rfl)
      rw [hr] at HA; clear hr
      go_enter Try.func98, Try.ntmps98
      go_wp2_with fail
      rw [← Hw.out, ← Hbe.out]
      go_wp2_with fail
      refine (HA 0).out.mono ?_
      rintro e w2 ⟨rfl, q0, rfl⟩
      go_wp2_with fail
      go_loopw [3] (fun i wr => ∃ k : Nat, k ≤ n ∧ i = .int .i64 k ∧ Hid ((xss.take k).all (oks (xss.headD [])) = true) ∧ ∃ q, wr = w0.drewN q) (fun i _ => n - (intOf i).toNat)
      case atStart => exact ⟨0, Nat.zero_le _, rfl, Lib.hid (by simp), (by first | exact ⟨_, rfl⟩ | exact ⟨_, World.drewN_drewN _ _ _⟩ | (simp only [World.drewN_drewN]; exact ⟨_, rfl⟩))⟩
      case round =>
        obtain ⟨k, hk, rfl, HK, q, rfl⟩ := hrel
        clear HA
        by_cases hlt : k < n
        · obtain ⟨ad, A1, n1, c1, x, rfl, _, hx, hcr, hr1⟩ := H.out.at_ hlt
          obtain ⟨ad', A0, n0, c0, x0, had, _, hx0, hcr0, hr0⟩ := H.out.at_ (show 0 < n by omega)
          obtain rfl : ad = ad' := by simpa using had
          clear had
          have hc00 : w0.cell? ad = some (.slice A0 n0 c0) := by simpa [Addr.add] using hcr0
          clear hcr0
          have hh : xss.headD [] = x0 := by
            have := hx0.out
            cases xss with
            | nil => simp at this
            | cons y ys => simpa using this
          have hn1 : n1 ≤ 2000000 := by rw [← hr1.len]; exact HX.out x (List.mem_of_getElem? hx.out)
          have hn0 : n0 ≤ 2000000 := by rw [← hr0.len]; exact HX.out x0 (List.mem_of_getElem? hx0.out)
          have hpos : (0 : Int) < (n : Int) := by omega
          have Hw1 := fun W : Nat => Lib.hid (show Calls Try.prog 140 #[.slice A1 n1 c1] (w0.drewN W) (fun e w'' => e = .returned (.bool (wrdB x)) ∧ ∃ m, w'' = (w0.drewN W).drewN m) from (l03Word_any A1 n1 c1 _ x (w0.drewN W) (hr1.drewN W) hn1).mono fun e w' h => ⟨h.1, 0, h.2⟩)
          have Hs1 := fun W : Nat => Lib.hid (show Calls Try.prog 99 #[.slice A1 n1 c1] (w0.drewN W) (fun e w'' => e = .returned (.int .i64 (psT 0 x)) ∧ ∃ m, w'' = (w0.drewN W).drewN m) from (deg03_any A1 n1 c1 _ x (w0.drewN W) (hr1.drewN W) (by omega)).mono fun e w' h => ⟨h.1, 0, h.2⟩)
          have Hs0 := fun W : Nat => Lib.hid (show Calls Try.prog 99 #[.slice A0 n0 c0] (w0.drewN W) (fun e w'' => e = .returned (.int .i64 (psT 0 x0)) ∧ ∃ m, w'' = (w0.drewN W).drewN m) from (deg03_any A0 n0 c0 _ x0 (w0.drewN W) (hr0.drewN W) (by omega)).mono fun e w' h => ⟨h.1, 0, h.2⟩)
          rw [hh] at HV HK
          have Hh := Lib.hid hh
          clear hr1 hr0 hh
          cases hw : wrdB x
          · simp only [hw] at Hw1
            have HN : Hid (R = false) := Lib.hid (by rw [HV.out]; exact all_no hx (Lib.hid (by simp [oks, hw])))
            clear hw
            go_wp2_with fail
            go_quiet ((go_at_call 140; first | exact Calls.quiet_of ((Hw1 _).out) | exact quiet_add ((Hw1 _).out)))
            go_wp2_with fail
            go_ret
            exact RetBb.mk (b' := false) HN.out.symm (by first | exact below_drewN HB0.out _ | exact below_drewN (below_drewN HB0.out _) _)
          · simp only [hw] at Hw1
            obtain ⟨v, hv⟩ : ∃ v, v = psT 0 x := ⟨_, rfl⟩
            obtain ⟨u, hu⟩ : ∃ u, u = psT 0 x0 := ⟨_, rfl⟩
            rw [← hv] at Hs1
            rw [← hu] at Hs0
            by_cases hvu : v = u
            · have HN : Hid (oks x0 x = true) := Lib.hid (by simp [oks, hw, ← hv, ← hu, hvu])
              clear hw hv hu
              subst hvu
              have hne1 : (v == v) = true := by simp
              have hne2 : (v != v) = false := by simp
              go_wp2_with fail
              go_quiet (first | (go_at_call 140; first | exact Calls.quiet_of ((Hw1 _).out) | exact quiet_add ((Hw1 _).out)) | (go_at_call_of 99 A1; first | exact Calls.quiet_of ((Hs1 _).out) | exact quiet_add ((Hs1 _).out)) | (go_at_call_of 99 A0; first | exact Calls.quiet_of ((Hs0 _).out) | exact quiet_add ((Hs0 _).out)))
              go_wp2_with fail
              go_roundw
              case rel => exact ⟨k + 1, by omega, by go_num, Lib.hid (by rw [Hh.out]; exact all_take_succL hx HK HN), (by first | exact ⟨_, rfl⟩ | exact ⟨_, World.drewN_drewN _ _ _⟩ | (simp only [World.drewN_drewN]; exact ⟨_, rfl⟩))⟩
              case measure => simp [intOf]; omega
            · have HN : Hid (R = false) := Lib.hid (by rw [HV.out]; exact all_no hx (Lib.hid (by simp [oks, ← hv, ← hu, hvu])))
              clear hw hv hu
              have hne1 : (v == u) = false := by simpa using hvu
              have hne2 : (v != u) = true := by simpa using hvu
              clear hvu
              go_wp2_with fail
              go_quiet (first | (go_at_call 140; first | exact Calls.quiet_of ((Hw1 _).out) | exact quiet_add ((Hw1 _).out)) | (go_at_call_of 99 A1; first | exact Calls.quiet_of ((Hs1 _).out) | exact quiet_add ((Hs1 _).out)) | (go_at_call_of 99 A0; first | exact Calls.quiet_of ((Hs0 _).out) | exact quiet_add ((Hs0 _).out)))
              go_wp2_with fail
              go_ret
              exact RetBb.mk (b' := false) HN.out.symm (by first | exact below_drewN HB0.out _ | exact below_drewN (below_drewN HB0.out _) _)
        · go_wp2_with fail
          go_ret
          obtain rfl : k = n := by omega
          exact RetBb.mk (b' := true) (by have h3 := HK.out; rw [List.take_of_length_le (by rw [HL.out]; omega)] at h3; rw [HV.out, h3]) (by first | exact below_drewN HB0.out _ | exact below_drewN (below_drewN HB0.out _) _)
  · have HV : Hid (R = false) := Lib.hid (by rw [HR.out]; simp [HL.out, h1])
    have hd1 : decide ((2000 : Int) < (n : Int)) = true := by simp; omega
    go_enter Try.func98, Try.ntmps98
    go_wp2_with fail
    rw [← Hw.out]
    go_ret
    exact RetBb.mk (b' := false) HV.out.symm HB0.out
end Go.Proofs.Ytejlkobieohgfaa
