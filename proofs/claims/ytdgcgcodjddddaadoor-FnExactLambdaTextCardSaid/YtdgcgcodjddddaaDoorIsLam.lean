/- IsLambda on both sides. -/
import Derived.Test.YtdgcgcodjddddaaDoorIsL
namespace Go.Proofs.YtdgcgcodjddddaaDoor
open Go.RowKit
set_option linter.unusedVariables false

theorem len_le_of_total {xss : List (List Int)} {x : List Int} (h : x ∈ xss) : x.length ≤ totalL xss := by
  obtain ⟨k, hk, rfl⟩ := List.getElem_of_mem h
  exact len_le_total (Lib.hid (List.getElem?_eq_getElem hk))
theorem wordAll_any (A : Option Addr) (n c : Nat) (xss : List (List Int)) (w : World) (h : RdL w w.heap.size A n c xss) (hn : n ≤ 2000000) (hx : ∀ x ∈ xss, x.length ≤ 2000000) :
    Calls Tryd.prog 51 #[.slice A n c, .func (.func 52) #[] #[]] w (RetBb (xss.all wordB) w) := by
  have hl := h.len
  have := allL_any A n c xss _ _ _ w h hn (condL_of wordB (enters_of Tryd.func52 (by kernel_rfl) rfl) xss (fun A n c xs w hm hr => isLambdaWord_any A n c xs w hr (by rw [← hr.len]; exact hx xs hm)) w)
  rw [allR_rows wordB hl] at this
  exact this

theorem box_cell {w w1 : World} {T : TypeId} {cs : Array Value} {i : Nat} {v : Value} (hb : Below (w.alloc (.cells cs T)).heap.size (w.alloc (.cells cs T)) w1) (hv : (w.alloc (.cells cs T)).cell? ⟨w.heap.size, i, none⟩ = some v) :
    w1.cell? ⟨w.heap.size, i, none⟩ = some v := (hb.cell (p := ⟨w.heap.size, i, none⟩) (by simp)).trans hv

theorem iIsLambda (A : Option Addr) (n c : Nat) (xss : List (List Int)) (w : World) (h : RdL w w.heap.size A n c xss) (hn : n ≤ 2000000) (ht : totalL xss ≤ 2000000) :
    Calls Tryd.prog 22 #[.agg #[.slice A n c]] w (RetBb (isLB xss) w) := by
  have hx : ∀ x ∈ xss, x.length ≤ 2000000 := fun x hx => Nat.le_trans (len_le_of_total hx) ht
  have hl := h.len
  have hb0 : Below w.heap.size w (w.alloc (.cells #[.slice A n c] 28)) := (Below.refl _ _).alloc (Nat.le_refl _) _
  have H := Lib.hid ((h.below hb0).mono hb0.size); clear h
  have HX := Lib.hid hx; clear hx
  have HL := Lib.hid hl; clear hl
  have Hb0 := Lib.hid hb0; clear hb0
  have HC : Hid ((w.alloc (.cells #[.slice A n c] 28)).cell? ⟨w.heap.size, 0, none⟩ = some (.slice A n c)) := Lib.hid (by simp)
  by_cases h1 : n ≤ 2000
  · have Hw := Lib.hid (wordAll_any A n c xss _ H.out hn HX.out)
    cases hw : xss.all wordB
    · have HV : Hid (isLB xss = false) := Lib.hid (by simp only [isLB, hw]; simp)
      rw [hw] at Hw; clear hw
      go_enter Tryd.func22, Tryd.ntmps22
      go_wp2_with fail
      refine (Hw.out).mono ?_
      rintro e w1 ⟨rfl, hb1⟩
      go_wp2_with fail
      go_ret
      exact RetBb.mk (b' := false) HV.out.symm (Hb0.out.trans (hb1.mono Hb0.out.size))
    · cases hr : risB xss
      · have HV : Hid (isLB xss = false) := Lib.hid (by simp [isLB, hr])
        rw [hw] at Hw; clear hw
        have HR := Lib.hid hr; clear hr
        go_enter Tryd.func22, Tryd.ntmps22
        go_wp2_with fail
        refine (Hw.out).mono ?_
        rintro e w1 ⟨rfl, hb1⟩
        have hc1 := box_cell hb1 HC.out
        have Hb1 := Lib.hid hb1; clear hb1
        go_wp2_with fail
        refine (rising_any A n c _ xss _ (H.out.below Hb1.out) (by omega) (by omega)).mono ?_
        rintro e w2 ⟨rfl, q2, rfl⟩
        rw [HR.out]
        go_wp2_with fail
        go_ret
        exact RetBb.mk (b' := false) HV.out.symm (below_drewN (Hb0.out.trans (Hb1.out.mono Hb0.out.size)) _)
      · have HV : Hid (isLB xss = (sameB (psT 0) xss && sameB lenI xss)) := Lib.hid (by simp only [isLB, hw, hr, HL.out, h1]; simp)
        rw [hw] at Hw; clear hw
        have HR := Lib.hid hr; clear hr
        cases hs : sameB (psT 0) xss
        · rw [hs] at HV
          have HS := Lib.hid hs; clear hs
          go_enter Tryd.func22, Tryd.ntmps22
          go_wp2_with fail
          refine (Hw.out).mono ?_
          rintro e w1 ⟨rfl, hb1⟩
          have hc1 := box_cell hb1 HC.out
          have Hb1 := Lib.hid hb1; clear hb1
          go_wp2_with fail
          refine (rising_any A n c _ xss _ (H.out.below Hb1.out) (by omega) (by omega)).mono ?_
          rintro e w2 ⟨rfl, q2, rfl⟩
          rw [HR.out]
          go_wp2_with fail
          refine (sameDegreeS_any A n c xss _ ((H.out.below (below_drewN Hb1.out q2)).mono Hb1.out.size) hn HX.out).mono ?_
          rintro e w3 ⟨rfl, hb3⟩
          rw [HS.out]
          go_wp2_with fail
          go_ret
          exact RetBb.mk (b' := false) HV.out.symm ((below_drewN (Hb0.out.trans (Hb1.out.mono Hb0.out.size)) _).trans (hb3.mono (Nat.le_trans Hb0.out.size Hb1.out.size)))
        · rw [hs] at HV
          have HS := Lib.hid hs; clear hs
          go_enter Tryd.func22, Tryd.ntmps22
          go_wp2_with fail
          refine (Hw.out).mono ?_
          rintro e w1 ⟨rfl, hb1⟩
          have hc1 := box_cell hb1 HC.out
          have Hb1 := Lib.hid hb1; clear hb1
          go_wp2_with fail
          refine (rising_any A n c _ xss _ (H.out.below Hb1.out) (by omega) (by omega)).mono ?_
          rintro e w2 ⟨rfl, q2, rfl⟩
          rw [HR.out]
          go_wp2_with fail
          refine (sameDegreeS_any A n c xss _ ((H.out.below (below_drewN Hb1.out q2)).mono Hb1.out.size) hn HX.out).mono ?_
          rintro e w3 ⟨rfl, hb3⟩
          rw [HS.out]
          have Hb3 := Lib.hid ((below_drewN Hb1.out q2).trans (hb3.mono Hb1.out.size)); clear hb3 hc1
          have hc3 := box_cell Hb3.out HC.out
          go_wp2_with fail
          refine (sameDegreeL_any A n c xss _ ((H.out.below Hb3.out).mono Hb3.out.size) hn HX.out).mono ?_
          rintro e w4 ⟨rfl, hb4⟩
          have Hb4 := Lib.hid hb4; clear hb4
          go_wp2_with fail
          go_ret
          exact RetBb.mk HV.out.symm (Hb0.out.trans ((Hb3.out.trans (Hb4.out.mono Hb3.out.size)).mono Hb0.out.size))
  · have HV : Hid (isLB xss = false) := Lib.hid (by simp [isLB, HL.out, h1])
    go_enter Tryd.func22, Tryd.ntmps22
    go_wp2_with fail
    go_ret
    exact RetBb.mk (b' := false) HV.out.symm Hb0.out

def okx (x0 x : List Int) : Bool := wordB x && decide (lenI x = lenI x0) && decide (psT 0 x = psT 0 x0)
theorem isLB_eq (xss : List (List Int)) : isLB xss = (decide (xss.length ≤ 2000) && risB xss && xss.all (okx (xss.headD []))) := by
  have h : xss.all (okx (xss.headD [])) = (xss.all wordB && sameB (psT 0) xss && sameB lenI xss) := by
    rw [Bool.eq_iff_iff]
    simp only [Bool.and_eq_true, List.all_eq_true, sameB, okx]
    exact ⟨fun h => ⟨⟨fun x hx => (h x hx).1.1, fun x hx => (h x hx).2⟩, fun x hx => (h x hx).1.2⟩, fun h x hx => ⟨⟨h.1.1 x hx, h.2 x hx⟩, h.1.2 x hx⟩⟩
  rw [h]
  simp only [isLB, Bool.and_assoc]
theorem all_take_succL {xss : List (List Int)} {k : Nat} {x : List Int} {p : List Int → Bool} (hx : Hid (xss[k]? = some x)) (h : Hid ((xss.take k).all p = true)) (hp : Hid (p x = true)) : (xss.take (k + 1)).all p = true := by
  rw [List.take_add_one, hx.out, List.all_append, h.out]; simp [hp.out]
theorem all_no {xss : List (List Int)} {k : Nat} {x : List Int} {p : List Int → Bool} (hx : Hid (xss[k]? = some x)) (hp : Hid (p x = false)) : xss.all p = false := by
  rw [List.all_eq_false]; exact ⟨x, List.mem_of_getElem? hx.out, by simp [hp.out]⟩

theorem l16Is_any (A : Option Addr) (n c B : Nat) (xss : List (List Int)) (w : World) (h : RdL w B A n c xss) (hn : n ≤ 2000000) (ht : totalL xss ≤ 2000000) :
    Calls Tryd.prog 19 #[.slice A n c] w (RetB (isLB xss) w) := by
  have HX := Lib.hid (fun (x : List Int) (hx : x ∈ xss) => Nat.le_trans (len_le_of_total hx) ht)
  have HT := Lib.hid ht; clear ht
  have HL := Lib.hid h.len
  have H := Lib.hid h; clear h
  rw [isLB_eq]
  by_cases h1 : n ≤ 2000
  · have HA := fun W : Nat => Lib.hid (ascending_any A n c B xss (w.drewN W) (H.out.drewN W) (by omega) (by have := HT.out; omega))
    cases hr : risB xss
    · rw [hr] at HA; clear hr
      go_enter Tryd.func19, Tryd.ntmps19
      go_wp2_with fail
      refine (HA 0).out.mono ?_
      rintro e w1 ⟨rfl, q, rfl⟩
      go_wp2_with fail
      go_ret
      exact RetB.mk (b' := false) (by simp) (by first | exact ⟨_, rfl⟩ | exact ⟨_, World.drewN_drewN _ _ _⟩ | (simp only [World.drewN_drewN]; exact ⟨_, rfl⟩))
    · rw [hr] at HA; clear hr
      obtain ⟨R, hR⟩ : ∃ R, R = xss.all (okx (xss.headD [])) := ⟨_, rfl⟩
      have HR := Lib.hid hR
      rw [← hR, show decide (xss.length ≤ 2000) = true from by simp [HL.out, h1], Bool.true_and, Bool.true_and]
      clear hR
      go_enter Tryd.func19, Tryd.ntmps19
      go_wp2_with fail
      refine (HA 0).out.mono ?_
      rintro e w1 ⟨rfl, q0, rfl⟩
      go_wp2_with fail
      go_loopw [3] (fun i wr => ∃ k : Nat, k ≤ n ∧ i = .int .i64 k ∧ Hid ((xss.take k).all (okx (xss.headD [])) = true) ∧ ∃ q, wr = w.drewN q) (fun i _ => n - (intOf i).toNat)
      case atStart => exact ⟨0, Nat.zero_le _, rfl, Lib.hid (by simp), (by first | exact ⟨_, rfl⟩ | exact ⟨_, World.drewN_drewN _ _ _⟩ | (simp only [World.drewN_drewN]; exact ⟨_, rfl⟩))⟩
      case round =>
        obtain ⟨k, hk, rfl, HK, q, rfl⟩ := hrel
        clear HA
        by_cases hlt : k < n
        · obtain ⟨ad, A1, n1, c1, x, rfl, _, hx, hc1, hr1⟩ := H.out.at_ hlt
          obtain ⟨ad', A0, n0, c0, x0, had, _, hx0, hc0, hr0⟩ := H.out.at_ (show 0 < n by omega)
          obtain rfl : ad = ad' := by simpa using had
          clear had
          have hc00 : w.cell? ad = some (.slice A0 n0 c0) := by simpa [Addr.add] using hc0
          clear hc0
          have hh : xss.headD [] = x0 := by
            have := hx0.out
            cases xss with
            | nil => simp at this
            | cons y ys => simpa using this
          have hn1 : n1 ≤ 2000000 := by rw [← hr1.len]; exact HX.out x (List.mem_of_getElem? hx.out)
          have hn0 : n0 ≤ 2000000 := by rw [← hr0.len]; exact HX.out x0 (List.mem_of_getElem? hx0.out)
          have Hl1 := Lib.hid hr1.len
          have Hl0 := Lib.hid hr0.len
          have hpos : (0 : Int) < (n : Int) := by omega
          have Hw1 := fun W : Nat => Lib.hid (show Calls Tryd.prog 48 #[.slice A1 n1 c1] (w.drewN W) (fun e w'' => e = .returned (.bool (wordB x)) ∧ ∃ m, w'' = (w.drewN W).drewN m) from (l16Word_any A1 n1 c1 _ x (w.drewN W) (hr1.drewN W) hn1).mono fun e w' h => ⟨h.1, 0, h.2⟩)
          have Hs1 := fun W : Nat => Lib.hid (show Calls Tryd.prog 31 #[.slice A1 n1 c1] (w.drewN W) (fun e w'' => e = .returned (.int .i64 (psT 0 x)) ∧ ∃ m, w'' = (w.drewN W).drewN m) from (stem_any A1 n1 c1 _ x (w.drewN W) (hr1.drewN W) (by omega)).mono fun e w' h => ⟨h.1, 0, h.2⟩)
          have Hs0 := fun W : Nat => Lib.hid (show Calls Tryd.prog 31 #[.slice A0 n0 c0] (w.drewN W) (fun e w'' => e = .returned (.int .i64 (psT 0 x0)) ∧ ∃ m, w'' = (w.drewN W).drewN m) from (stem_any A0 n0 c0 _ x0 (w.drewN W) (hr0.drewN W) (by omega)).mono fun e w' h => ⟨h.1, 0, h.2⟩)
          rw [hh] at HR HK
          have Hh := Lib.hid hh
          clear hr1 hr0 hh
          have hne0 : ((n0 : Int) == (n0 : Int)) = true := by simp
          cases hw : wordB x
          · simp only [hw] at Hw1
            have HN : Hid (okx x0 x = false) := Lib.hid (by simp [okx, hw])
            clear hw
            go_wp2_with fail
            go_quiet ((go_at_call 48; first | exact Calls.quiet_of ((Hw1 _).out) | exact quiet_add ((Hw1 _).out)))
            go_wp2_with fail
            go_ret
            exact RetB.mk (b' := false) (by rw [HR.out, all_no hx HN]) (by first | exact ⟨_, rfl⟩ | exact ⟨_, World.drewN_drewN _ _ _⟩ | (simp only [World.drewN_drewN]; exact ⟨_, rfl⟩))
          · simp only [hw] at Hw1
            by_cases hn10 : n1 = n0
            · obtain ⟨v, hv⟩ : ∃ v, v = psT 0 x := ⟨_, rfl⟩
              obtain ⟨u, hu⟩ : ∃ u, u = psT 0 x0 := ⟨_, rfl⟩
              rw [← hv] at Hs1
              rw [← hu] at Hs0
              by_cases hvu : v = u
              · have HN : Hid (okx x0 x = true) := Lib.hid (by simp [okx, hw, lenI, Hl1.out, Hl0.out, hn10, ← hv, ← hu, hvu])
                clear hw hv hu
                subst hvu hn10
                have hne1 : (v == v) = true := by simp
                have hne2 : (v != v) = false := by simp
                have hne3 : ((n1 : Int) != (n1 : Int)) = false := by simp
                go_wp2_with fail
                go_quiet (first | (go_at_call 48; first | exact Calls.quiet_of ((Hw1 _).out) | exact quiet_add ((Hw1 _).out)) | (go_at_call_of 31 A1; first | exact Calls.quiet_of ((Hs1 _).out) | exact quiet_add ((Hs1 _).out)) | (go_at_call_of 31 A0; first | exact Calls.quiet_of ((Hs0 _).out) | exact quiet_add ((Hs0 _).out)))
                go_wp2_with fail
                go_roundw
                case rel => exact ⟨k + 1, by omega, by go_num, Lib.hid (by rw [Hh.out]; exact all_take_succL hx HK HN), (by first | exact ⟨_, rfl⟩ | exact ⟨_, World.drewN_drewN _ _ _⟩ | (simp only [World.drewN_drewN]; exact ⟨_, rfl⟩))⟩
                case measure => simp [intOf]; omega
              · have HN : Hid (okx x0 x = false) := Lib.hid (by simp [okx, ← hv, ← hu, hvu])
                clear hw hv hu
                subst hn10
                have hne3 : ((n1 : Int) != (n1 : Int)) = false := by simp
                have hne1 : (v == u) = false := by simpa using hvu
                have hne2 : (v != u) = true := by simpa using hvu
                clear hvu
                go_wp2_with fail
                go_quiet (first | (go_at_call 48; first | exact Calls.quiet_of ((Hw1 _).out) | exact quiet_add ((Hw1 _).out)) | (go_at_call_of 31 A1; first | exact Calls.quiet_of ((Hs1 _).out) | exact quiet_add ((Hs1 _).out)) | (go_at_call_of 31 A0; first | exact Calls.quiet_of ((Hs0 _).out) | exact quiet_add ((Hs0 _).out)))
                go_wp2_with fail
                go_ret
                exact RetB.mk (b' := false) (by rw [HR.out, all_no hx HN]) (by first | exact ⟨_, rfl⟩ | exact ⟨_, World.drewN_drewN _ _ _⟩ | (simp only [World.drewN_drewN]; exact ⟨_, rfl⟩))
            · have HN : Hid (okx x0 x = false) := Lib.hid (by simp [okx, lenI, Hl1.out, Hl0.out, show ¬ (n1 : Int) = n0 by omega])
              clear hw
              have hne1 : ((n1 : Int) == (n0 : Int)) = false := by simp; omega
              have hne2 : ((n1 : Int) != (n0 : Int)) = true := by simp; omega
              have hne3 : (n1 == n0) = false := by simp; omega
              clear hn10 Hs1 Hs0 hne0
              go_wp2_with fail
              go_quiet ((go_at_call 48; first | exact Calls.quiet_of ((Hw1 _).out) | exact quiet_add ((Hw1 _).out)))
              go_wp2_with fail
              go_ret
              exact RetB.mk (b' := false) (by rw [HR.out, all_no hx HN]) (by first | exact ⟨_, rfl⟩ | exact ⟨_, World.drewN_drewN _ _ _⟩ | (simp only [World.drewN_drewN]; exact ⟨_, rfl⟩))
        · go_wp2_with fail
          go_ret
          obtain rfl : k = n := by omega
          exact RetB.mk (b' := true) (by have h3 := HK.out; rw [List.take_of_length_le (by rw [HL.out]; omega)] at h3; rw [HR.out, h3]) (by first | exact ⟨_, rfl⟩ | exact ⟨_, World.drewN_drewN _ _ _⟩ | (simp only [World.drewN_drewN]; exact ⟨_, rfl⟩))
  · have HV : Hid ((decide (xss.length ≤ 2000) && risB xss && xss.all (okx (xss.headD []))) = false) := Lib.hid (by simp [HL.out, h1])
    go_enter Tryd.func19, Tryd.ntmps19
    go_wp2_with fail
    go_ret
    exact RetB.mk (b' := false) (HV.out.symm.trans (by simp only [List.headD_eq_head?_getD])) ⟨0, rfl⟩
end Go.Proofs.YtdgcgcodjddddaaDoor
