/- The law FnExactIsLambda, over what both sides answer. -/
import Derived.Test.YtgmbbpaokcjnhaaGreatDoorAllL
import Derived.Test.YtgmbbpaokcjnhaaGreatDoorLamT
import Derived.Deep.RegionHeld3
import Derived.Test.YtgmbbpaokcjnhaaGreatDoorSumO
import Derived.Test.YtgmbbpaokcjnhaaGreatDoorFr
import Derived.Test.YtgmbbpaokcjnhaaGreatDoorSumL
namespace Go.Proofs.YtgmbbpaokcjnhaaGreatDoor
open Go.RowKit
set_option linter.unusedVariables false

theorem isLB_asc {xss : List (List Int)} (h : isLB xss = true) : Asc xss := by
  simp only [isLB, Bool.and_eq_true] at h
  exact asc_risB.1 h.1.1.1.2
theorem sIsLambda (A : Option Addr) (n c : Nat) (xss : List (List Int)) (w : World) (h : RdL w w.heap.size A n c xss) (hn : n ≤ 2000000) (ht : totalL xss ≤ 2000000) :
    Calls Tryz.prog 10 #[.agg #[.slice A n c]] w (RetBb (isLB xss) w) := by
  have hb0 : Below w.heap.size w (w.alloc (.cells #[.slice A n c] 26)) := (Below.refl _ _).alloc (Nat.le_refl _) _
  have H := Lib.hid (l16Is_any A n c _ xss _ (h.below hb0) hn ht); clear h
  have Hb0 := Lib.hid hb0; clear hb0
  go_enter Tryz.func10, Tryz.ntmps10
  go_wp2_with fail
  refine H.out.mono ?_
  rintro e w1 ⟨rfl, q, rfl⟩
  go_wp2_with fail
  go_ret
  exact RetBb.mk rfl (below_drewN Hb0.out q)

end Go.Proofs.YtgmbbpaokcjnhaaGreatDoor

/- AddLambda on both sides. -/
namespace Go.Proofs.YtgmbbpaokcjnhaaGreatDoor
open Go.RowKit
set_option linter.unusedVariables false

theorem isZeroL_any (A : Option Addr) (n c : Nat) (w : World) (hn : n ≤ 2000000) : Calls Tryz.prog 26 #[.agg #[.slice A n c]] w (RetBb (decide (n = 0)) w) := by
  have hb0 : Below w.heap.size w (w.alloc (.cells #[.slice A n c] 26)) := (Below.refl _ _).alloc (Nat.le_refl _) _
  have Hb0 := Lib.hid hb0; clear hb0
  rcases Nat.eq_zero_or_pos n with rfl | h
  · skip
    go_enter Tryz.func26, Tryz.ntmps26
    go_wp2_with fail
    go_ret
    exact RetBb.mk (b' := true) rfl Hb0.out
  · have h1 : ((n : Int) == 0) = false := by simp; omega
    go_enter Tryz.func26, Tryz.ntmps26
    go_wp2_with fail
    go_ret
    exact RetBb.mk (by simp; omega) Hb0.out

def RetSz (x : List Int) (w : World) (e : Ending) (w' : World) : Prop := e = .returned (.tuple #[.int .i64 x.length, .int .i64 (psT 0 x)]) ∧ Below w.heap.size w w'
theorem RetSz.mk {x : List Int} {w w' : World} {a b : Int} (ha : a = x.length) (hb : b = psT 0 x) (h : Below w.heap.size w w') : RetSz x w (.returned (.tuple #[.int .i64 a, .int .i64 b])) w' := by subst ha; subst hb; exact ⟨rfl, h⟩
theorem sizeL_any (A : Option Addr) (n c B : Nat) (xss : List (List Int)) (w : World) (h : RdL w B A n c xss) (hB : B ≤ w.heap.size) (hpos : 0 < n) (hx : ∀ x ∈ xss, x.length ≤ 2000000) :
    Calls Tryz.prog 27 #[.agg #[.slice A n c]] w (RetSz (xss.headD []) w) := by
  have hb0 : Below w.heap.size w (w.alloc (.cells #[.slice A n c] 26)) := (Below.refl _ _).alloc (Nat.le_refl _) _
  obtain ⟨ad, A3, n3, c3, x0, rfl, _, hx0, hc0, hr0⟩ := (h.below (hb0.mono hB)).at_ hpos
  have hh : xss.headD [] = x0 := by
    have := hx0.out
    cases xss with
    | nil => simp at this
    | cons y ys => simpa using this
  rw [hh]
  have hn3 : n3 ≤ 2000000 := by rw [← hr0.len]; exact hx x0 (List.mem_of_getElem? hx0.out)
  have Hl := Lib.hid hr0.len
  have hc00 : (w.alloc (.cells #[.slice (some ad) n c] 26)).cell? ad = some (.slice A3 n3 c3) := by simpa [Addr.add] using hc0
  have Hs := fun W : Nat => Lib.hid (sum_any A3 n3 c3 _ x0 _ (hr0.drewN W) (by omega))
  obtain ⟨v, hv⟩ : ∃ v, v = psT 0 x0 := ⟨_, rfl⟩
  have HV := Lib.hid hv
  rw [← hv] at Hs
  have Hb0 := Lib.hid hb0
  have hp0 : (0 : Int) < (n : Int) := by omega
  clear hb0 hv hh hx hr0 h hc0 hx0
  go_enter Tryz.func27, Tryz.ntmps27
  go_wp2_with fail
  go_quiet ((go_at_call 40; exact Calls.quiet_of_same ((Hs _).out)))
  go_wp2_with fail
  go_ret2
  exact RetSz.mk (a := n3) (by rw [Hl.out]) HV.out (below_drewN Hb0.out _)

def sizeEq (a b : List (List Int)) : Bool := decide ((a.headD []).length = (b.headD []).length) && decide (psT 0 (a.headD []) = psT 0 (b.headD []))
def addO (a b : List (List Int)) : Int × List (List Int) :=
  if isLB a && isLB b then
    if !a.isEmpty && !b.isEmpty && !sizeEq a b then (2, []) else if (oddL (a ++ b)).length ≤ 2000 then (0, oddL (a ++ b)) else (3, [])
  else (1, [])
theorem addO_bad1 {a b : List (List Int)} (h : isLB a = false) : addO a b = (1, []) := by simp [addO, h]
theorem addO_bad2 {a b : List (List Int)} (h : isLB b = false) : addO a b = (1, []) := by simp [addO, h]
theorem addO_range {a b : List (List Int)} (h1 : isLB a = true) (h2 : isLB b = true) (h3 : a.isEmpty = false) (h4 : b.isEmpty = false) (h5 : sizeEq a b = false) : addO a b = (2, []) := by simp [addO, h1, h2, h3, h4, h5]
def fits (a b : List (List Int)) : Prop := (!a.isEmpty && !b.isEmpty && !sizeEq a b) = false
theorem addO_ok {a b : List (List Int)} (h1 : isLB a = true) (h2 : isLB b = true) (h3 : fits a b) (h4 : (oddL (a ++ b)).length ≤ 2000) : addO a b = (0, oddL (a ++ b)) := by
  unfold fits at h3
  unfold addO
  rw [h1, h2, h3, Bool.and_self, if_pos rfl, if_neg (by simp), if_pos h4]
theorem addO_lim {a b : List (List Int)} (h1 : isLB a = true) (h2 : isLB b = true) (h3 : fits a b) (h4 : ¬ (oddL (a ++ b)).length ≤ 2000) : addO a b = (3, []) := by
  unfold fits at h3
  unfold addO
  rw [h1, h2, h3, Bool.and_self, if_pos rfl, if_neg (by simp), if_neg h4]
theorem emp_of {xss : List (List Int)} {n : Nat} (h : xss.length = n) : xss.isEmpty = decide (n = 0) := by
  subst h
  cases xss <;> simp

set_option maxHeartbeats 1000000 in
theorem iAddLambda (A1 A2 : Option Addr) (n1 c1 n2 c2 : Nat) (xss yss : List (List Int)) (w : World) (h1 : RdL w w.heap.size A1 n1 c1 xss) (h2 : RdL w w.heap.size A2 n2 c2 yss) (hn1 : n1 ≤ 2000000) (hn2 : n2 ≤ 2000000) (ht1 : totalL xss ≤ 2000000) (ht2 : totalL yss ≤ 2000000) :
    Calls Tryz.prog 12 #[.agg #[.slice A1 n1 c1], .agg #[.slice A2 n2 c2]] w (RetMC (addO xss yss).2.length (addO xss yss).2 (addO xss yss).1 w) := by
  obtain ⟨w0, b, hw0, hbe, hb0, hz0, hF⟩ := alloc3 w (.slice A1 n1 c1) (.slice A2 n2 c2) (.slice none 0 0) 26 26 26
  have HE1 := Lib.hid (emp_of h1.len)
  have HE2 := Lib.hid (emp_of h2.len)
  have HX1 := Lib.hid (fun (x : List Int) (hx : x ∈ xss) => Nat.le_trans (len_le_tot hx) ht1)
  have HX2 := Lib.hid (fun (x : List Int) (hx : x ∈ yss) => Nat.le_trans (len_le_tot hx) ht2)
  have HLen : Hid ((oddL (xss ++ yss)).length ≤ 4000000) := Lib.hid (by have := oddL_len (xss ++ yss); rw [List.length_append, h1.len, h2.len] at this; omega)
  have HTot : Hid (totalL (oddL (xss ++ yss)) ≤ 4000000) := Lib.hid (by
    have h := oddL_total (xss ++ yss)
    have : totalL (xss ++ yss) = totalL xss + totalL yss := by unfold totalL; rw [List.map_append, List.sum_append]
    omega)
  have H1 := Lib.hid ((h1.below hb0).mono hb0.size); clear h1
  have H2 := Lib.hid ((h2.below hb0).mono hb0.size); clear h2
  have Hw := Lib.hid hw0; clear hw0
  have Hbe := Lib.hid hbe; clear hbe
  have Hb0 := Lib.hid hb0; clear hb0
  have HZ := Lib.hid hz0; clear hz0
  have F0 := Lib.hid hF; clear hF
  have B0 := Lib.hid (Below.refl w0.heap.size w0)
  obtain ⟨r1, hr1⟩ : ∃ r, r = isLB xss := ⟨_, rfl⟩
  have HR1 := Lib.hid hr1; clear hr1
  obtain ⟨r2, hr2⟩ : ∃ r, r = isLB yss := ⟨_, rfl⟩
  have HR2 := Lib.hid hr2; clear hr2
  go_enter Tryz.func12, Tryz.ntmps12
  go_wp2_with fail
  rw [← Hw.out, ← Hbe.out]
  obtain ⟨k1, k2, k3, f3, _⟩ := F0.out
  refine (iIsLambda A1 n1 c1 xss _ ((H1.out.below B0.out).mono B0.out.size) (by omega) (by omega)).mono ?_
  rintro e w1 ⟨rfl, hb1⟩
  have B1 := Lib.hid (B0.out.trans (hb1.mono B0.out.size)); clear hb1
  obtain ⟨k1, k2, k3, f3, _⟩ := F0.out.below B1.out
  rw [← HR1.out]
  cases r1
  · have HV := Lib.hid (addO_bad1 (b := yss) HR1.out.symm)
    have hres := cell_set (v := .slice none 0 0) k3
    go_wp2_with fail
    refine bodyPost_ret (v := .tuple #[.agg #[.slice none 0 0], .int .i64 1]) (by simp [results, Tryz.results12, go_sem, hres]) rfl ?_
    exact RetMC.bad (by rw [HV.out]; rfl) (by rw [HV.out]) (by rw [HV.out]) Hb0.out B1.out (by rw [HZ.out, ← Hbe.out]; omega)
    
  · go_wp2_with fail
    refine (iIsLambda A2 n2 c2 yss _ ((H2.out.below B1.out).mono B1.out.size) (by omega) (by omega)).mono ?_
    rintro e w2 ⟨rfl, hb2⟩
    have B2 := Lib.hid (B1.out.trans (hb2.mono B1.out.size)); clear hb2
    obtain ⟨k1, k2, k3, f3, _⟩ := F0.out.below B2.out
    rw [← HR2.out]
    cases r2
    · have HV := Lib.hid (addO_bad2 (a := xss) HR2.out.symm)
      have hres := cell_set (v := .slice none 0 0) k3
      go_wp2_with fail
      refine bodyPost_ret (v := .tuple #[.agg #[.slice none 0 0], .int .i64 1]) (by simp [results, Tryz.results12, go_sem, hres]) rfl ?_
      exact RetMC.bad (by rw [HV.out]; rfl) (by rw [HV.out]) (by rw [HV.out]) Hb0.out B2.out (by rw [HZ.out, ← Hbe.out]; omega)
      
    · go_wp2_with fail
      refine (isZeroL_any A1 n1 c1 _ (by omega)).mono ?_
      rintro e w3 ⟨rfl, hb3⟩
      have B3 := Lib.hid (B2.out.trans (hb3.mono B2.out.size)); clear hb3
      obtain ⟨k1, k2, k3, f3, _⟩ := F0.out.below B3.out
      rcases Nat.eq_zero_or_pos n1 with hz1 | hz1
      · rw [decide_eq_true hz1]
        have HF : Hid (fits xss yss) := Lib.hid (by unfold fits; rw [HE1.out, decide_eq_true hz1]; rfl)
        clear hz1
        go_wp2_with fail
        refine (sumOf_any A1 A2 n1 c1 n2 c2 xss yss _ ((H1.out.below B3.out).mono B3.out.size) ((H2.out.below B3.out).mono B3.out.size) (by omega) (by omega) (by omega) (by omega)).mono ?_
        rintro e w4 ⟨A5, c5, rfl, ho5, hb4⟩
        have O5 := Lib.hid (ho5.mono B3.out.size (Nat.le_refl _)); clear ho5
        have B4 := Lib.hid (B3.out.trans (hb4.mono B3.out.size)); clear hb4
        obtain ⟨k1, k2, k3, f3, _⟩ := F0.out.below B4.out
        have M5 := Lib.hid (show OwnM w4 w0.heap.size w4.heap.size A5 _ c5 _ from ⟨O5.out, O5.out.lt⟩)
        obtain ⟨l, hl⟩ : ∃ l, l = (oddL (xss ++ yss)).length := ⟨_, rfl⟩
        have HL := Lib.hid hl
        rw [← hl] at M5 O5 ⊢
        have hlb : l ≤ 4000000 := by rw [hl]; exact HLen.out
        clear hl
        have hres := cell_set (v := .slice A5 l c5) k3
        by_cases hl2 : l ≤ 2000
        · have HV := Lib.hid (addO_ok HR1.out.symm HR2.out.symm HF.out (by rw [← HL.out]; exact hl2))
          go_wp2_with fail
          refine bodyPost_ret (v := .tuple #[.agg #[.slice A5 l c5], .int .i64 0]) (by simp [results, Tryz.results12, go_sem, hres]) rfl ?_
          exact RetMC.mk (by rw [HV.out]; exact HL.out) (by rw [HV.out]) (by rw [HV.out]) Hb0.out B4.out (by rw [HZ.out, ← Hbe.out]; omega) M5.out (Nat.le_refl _)
        · have HV := Lib.hid (addO_lim HR1.out.symm HR2.out.symm HF.out (by rw [← HL.out]; exact hl2))
          clear hres
          have hres := cell_set (v := .slice none 0 0) k3
          go_wp2_with fail
          refine bodyPost_ret (v := .tuple #[.agg #[.slice none 0 0], .int .i64 3]) (by simp [results, Tryz.results12, go_sem, hres]) rfl ?_
          exact RetMC.bad (by rw [HV.out]; rfl) (by rw [HV.out]) (by rw [HV.out]) Hb0.out B4.out (by rw [HZ.out, ← Hbe.out]; omega)
      · rw [decide_eq_false (show ¬ n1 = 0 by omega)]
        go_wp2_with fail
        refine (isZeroL_any A2 n2 c2 _ (by omega)).mono ?_
        rintro e w4 ⟨rfl, hb4⟩
        have B4 := Lib.hid (B3.out.trans (hb4.mono B3.out.size)); clear hb4
        obtain ⟨k1, k2, k3, f3, _⟩ := F0.out.below B4.out
        rcases Nat.eq_zero_or_pos n2 with hz2 | hz2
        · rw [decide_eq_true hz2]
          have HF : Hid (fits xss yss) := Lib.hid (by unfold fits; rw [HE2.out, decide_eq_true hz2]; simp)
          clear hz2
          go_wp2_with fail
          refine (sumOf_any A1 A2 n1 c1 n2 c2 xss yss _ ((H1.out.below B4.out).mono B4.out.size) ((H2.out.below B4.out).mono B4.out.size) (by omega) (by omega) (by omega) (by omega)).mono ?_
          rintro e w5 ⟨A5, c5, rfl, ho5, hb5⟩
          have O5 := Lib.hid (ho5.mono B4.out.size (Nat.le_refl _)); clear ho5
          have B5 := Lib.hid (B4.out.trans (hb5.mono B4.out.size)); clear hb5
          obtain ⟨k1, k2, k3, f3, _⟩ := F0.out.below B5.out
          have M5 := Lib.hid (show OwnM w5 w0.heap.size w5.heap.size A5 _ c5 _ from ⟨O5.out, O5.out.lt⟩)
          obtain ⟨l, hl⟩ : ∃ l, l = (oddL (xss ++ yss)).length := ⟨_, rfl⟩
          have HL := Lib.hid hl
          rw [← hl] at M5 O5 ⊢
          have hlb : l ≤ 4000000 := by rw [hl]; exact HLen.out
          clear hl
          have hres := cell_set (v := .slice A5 l c5) k3
          by_cases hl2 : l ≤ 2000
          · have HV := Lib.hid (addO_ok HR1.out.symm HR2.out.symm HF.out (by rw [← HL.out]; exact hl2))
            go_wp2_with fail
            refine bodyPost_ret (v := .tuple #[.agg #[.slice A5 l c5], .int .i64 0]) (by simp [results, Tryz.results12, go_sem, hres]) rfl ?_
            exact RetMC.mk (by rw [HV.out]; exact HL.out) (by rw [HV.out]) (by rw [HV.out]) Hb0.out B5.out (by rw [HZ.out, ← Hbe.out]; omega) M5.out (Nat.le_refl _)
          · have HV := Lib.hid (addO_lim HR1.out.symm HR2.out.symm HF.out (by rw [← HL.out]; exact hl2))
            clear hres
            have hres := cell_set (v := .slice none 0 0) k3
            go_wp2_with fail
            refine bodyPost_ret (v := .tuple #[.agg #[.slice none 0 0], .int .i64 3]) (by simp [results, Tryz.results12, go_sem, hres]) rfl ?_
            exact RetMC.bad (by rw [HV.out]; rfl) (by rw [HV.out]) (by rw [HV.out]) Hb0.out B5.out (by rw [HZ.out, ← Hbe.out]; omega)
        · rw [decide_eq_false (show ¬ n2 = 0 by omega)]
          have HN1 : Hid (xss.isEmpty = false) := Lib.hid (by rw [HE1.out]; simp; omega)
          have HN2 : Hid (yss.isEmpty = false) := Lib.hid (by rw [HE2.out]; simp; omega)
          have HSq : Hid (sizeEq xss yss = (decide ((xss.headD []).length = (yss.headD []).length) && decide (psT 0 (xss.headD []) = psT 0 (yss.headD [])))) := Lib.hid rfl
          obtain ⟨x0, hx0⟩ : ∃ x, x = xss.headD [] := ⟨_, rfl⟩
          obtain ⟨y0, hy0⟩ : ∃ y, y = yss.headD [] := ⟨_, rfl⟩
          have HSx := fun (W : World) (Bx : Below w0.heap.size w0 W) => Lib.hid (sizeL_any A1 n1 c1 _ xss W (H1.out.below Bx) Bx.size hz1 HX1.out)
          have HSy := fun (W : World) (Bx : Below w0.heap.size w0 W) => Lib.hid (sizeL_any A2 n2 c2 _ yss W (H2.out.below Bx) Bx.size hz2 HX2.out)
          rw [← hx0] at HSx HSq
          rw [← hy0] at HSy HSq
          clear hx0 hy0
          go_wp2_with fail
          refine ((HSx _ B4.out).out).mono ?_
          rintro e w5 ⟨rfl, hb5⟩
          have B5 := Lib.hid (B4.out.trans (hb5.mono B4.out.size)); clear hb5
          obtain ⟨k1, k2, k3, f3, _⟩ := F0.out.below B5.out
          go_wp2_with fail
          refine ((HSy _ B5.out).out).mono ?_
          rintro e w6 ⟨rfl, hb6⟩
          have B6 := Lib.hid (B5.out.trans (hb6.mono B5.out.size)); clear hb6
          obtain ⟨k1, k2, k3, f3, _⟩ := F0.out.below B6.out
          clear HSx HSy
          by_cases hlen : x0.length = y0.length
          · by_cases hst : psT 0 x0 = psT 0 y0
            · have HF : Hid (fits xss yss) := Lib.hid (by unfold fits; rw [HSq.out]; simp [hlen, hst])
              obtain ⟨u, hu⟩ : ∃ u, u = psT 0 x0 := ⟨_, rfl⟩
              obtain ⟨v, hv⟩ : ∃ v, v = x0.length := ⟨_, rfl⟩
              rw [← hst, ← hlen, ← hu, ← hv]
              have hne1 : (u != u) = false := by simp
              have hne2 : ((v : Int) != (v : Int)) = false := by simp
              clear hlen hst hu hv
              go_wp2_with fail
              refine (sumOf_any A1 A2 n1 c1 n2 c2 xss yss _ ((H1.out.below B6.out).mono B6.out.size) ((H2.out.below B6.out).mono B6.out.size) (by omega) (by omega) (by omega) (by omega)).mono ?_
              rintro e w7 ⟨A5, c5, rfl, ho5, hb7⟩
              have O5 := Lib.hid (ho5.mono B6.out.size (Nat.le_refl _)); clear ho5
              have B7 := Lib.hid (B6.out.trans (hb7.mono B6.out.size)); clear hb7
              obtain ⟨k1, k2, k3, f3, _⟩ := F0.out.below B7.out
              have M5 := Lib.hid (show OwnM w7 w0.heap.size w7.heap.size A5 _ c5 _ from ⟨O5.out, O5.out.lt⟩)
              obtain ⟨l, hl⟩ : ∃ l, l = (oddL (xss ++ yss)).length := ⟨_, rfl⟩
              have HL := Lib.hid hl
              rw [← hl] at M5 O5 ⊢
              have hlb : l ≤ 4000000 := by rw [hl]; exact HLen.out
              clear hl
              have hres := cell_set (v := .slice A5 l c5) k3
              by_cases hl2 : l ≤ 2000
              · have HV := Lib.hid (addO_ok HR1.out.symm HR2.out.symm HF.out (by rw [← HL.out]; exact hl2))
                go_wp2_with fail
                refine bodyPost_ret (v := .tuple #[.agg #[.slice A5 l c5], .int .i64 0]) (by simp [results, Tryz.results12, go_sem, hres]) rfl ?_
                exact RetMC.mk (by rw [HV.out]; exact HL.out) (by rw [HV.out]) (by rw [HV.out]) Hb0.out B7.out (by rw [HZ.out, ← Hbe.out]; omega) M5.out (Nat.le_refl _)
              · have HV := Lib.hid (addO_lim HR1.out.symm HR2.out.symm HF.out (by rw [← HL.out]; exact hl2))
                clear hres
                have hres := cell_set (v := .slice none 0 0) k3
                go_wp2_with fail
                refine bodyPost_ret (v := .tuple #[.agg #[.slice none 0 0], .int .i64 3]) (by simp [results, Tryz.results12, go_sem, hres]) rfl ?_
                exact RetMC.bad (by rw [HV.out]; rfl) (by rw [HV.out]) (by rw [HV.out]) Hb0.out B7.out (by rw [HZ.out, ← Hbe.out]; omega)
            · have HV : Hid (addO xss yss = (2, [])) := Lib.hid (addO_range HR1.out.symm HR2.out.symm HN1.out HN2.out (by rw [HSq.out]; simp [hst]))
              obtain ⟨u, hu⟩ : ∃ u, u = psT 0 x0 := ⟨_, rfl⟩
              obtain ⟨t, ht⟩ : ∃ t, t = psT 0 y0 := ⟨_, rfl⟩
              obtain ⟨v, hv⟩ : ∃ v, v = x0.length := ⟨_, rfl⟩
              rw [← hu, ← ht] at hst
              rw [← hlen, ← hu, ← hv, ← ht]
              clear hlen hu hv ht
              have hne1 : (u == t) = false := by simpa using hst
              have hne2 : (u != t) = true := by simpa using hst
              clear hst
              have hne3 : ((v : Int) != (v : Int)) = false := by simp
              have hres := cell_set (v := .slice none 0 0) k3
              go_wp2_with fail
              refine bodyPost_ret (v := .tuple #[.agg #[.slice none 0 0], .int .i64 2]) (by simp [results, Tryz.results12, go_sem, hres]) rfl ?_
              exact RetMC.bad (by rw [HV.out]; rfl) (by rw [HV.out]) (by rw [HV.out]) Hb0.out B6.out (by rw [HZ.out, ← Hbe.out]; omega)
          · have HV : Hid (addO xss yss = (2, [])) := Lib.hid (addO_range HR1.out.symm HR2.out.symm HN1.out HN2.out (by rw [HSq.out]; simp [hlen]))
            obtain ⟨v, hv⟩ : ∃ v, v = x0.length := ⟨_, rfl⟩
            obtain ⟨u, hu⟩ : ∃ u, u = y0.length := ⟨_, rfl⟩
            rw [← hv, ← hu] at hlen
            rw [← hv, ← hu]
            clear hv hu
            have hne1 : ((v : Int) == (u : Int)) = false := by simp; omega
            have hne2 : ((v : Int) != (u : Int)) = true := by simp; omega
            have hne3 : (v == u) = false := by simp; omega
            clear hlen
            have hres := cell_set (v := .slice none 0 0) k3
            go_wp2_with fail
            refine bodyPost_ret (v := .tuple #[.agg #[.slice none 0 0], .int .i64 2]) (by simp [results, Tryz.results12, go_sem, hres]) rfl ?_
            exact RetMC.bad (by rw [HV.out]; rfl) (by rw [HV.out]) (by rw [HV.out]) Hb0.out B6.out (by rw [HZ.out, ← Hbe.out]; omega)
      

set_option maxHeartbeats 1000000 in
theorem sAddLambda (A1 A2 : Option Addr) (n1 c1 n2 c2 : Nat) (xss yss : List (List Int)) (w : World) (h1 : RdL w w.heap.size A1 n1 c1 xss) (h2 : RdL w w.heap.size A2 n2 c2 yss) (hn1 : n1 ≤ 2000000) (hn2 : n2 ≤ 2000000) (ht1 : totalL xss ≤ 2000000) (ht2 : totalL yss ≤ 2000000) :
    Calls Tryz.prog 13 #[.agg #[.slice A1 n1 c1], .agg #[.slice A2 n2 c2]] w (RetMC (addO xss yss).2.length (addO xss yss).2 (addO xss yss).1 w) := by
  obtain ⟨w0, b, hw0, hbe, hb0, hz0, hF⟩ := alloc3 w (.slice A1 n1 c1) (.slice A2 n2 c2) (.slice none 0 0) 26 26 26
  have HE1 := Lib.hid (emp_of h1.len)
  have HE2 := Lib.hid (emp_of h2.len)
  have HX1 := Lib.hid (fun (x : List Int) (hx : x ∈ xss) => Nat.le_trans (len_le_tot hx) ht1)
  have HX2 := Lib.hid (fun (x : List Int) (hx : x ∈ yss) => Nat.le_trans (len_le_tot hx) ht2)
  have HLen : Hid ((oddL (xss ++ yss)).length ≤ 4000000) := Lib.hid (by have := oddL_len (xss ++ yss); rw [List.length_append, h1.len, h2.len] at this; omega)
  have HTot : Hid (totalL (oddL (xss ++ yss)) ≤ 4000000) := Lib.hid (by
    have h := oddL_total (xss ++ yss)
    have : totalL (xss ++ yss) = totalL xss + totalL yss := by unfold totalL; rw [List.map_append, List.sum_append]
    omega)
  have H1 := Lib.hid ((h1.below hb0).mono hb0.size); clear h1
  have H2 := Lib.hid ((h2.below hb0).mono hb0.size); clear h2
  have Hw := Lib.hid hw0; clear hw0
  have Hbe := Lib.hid hbe; clear hbe
  have Hb0 := Lib.hid hb0; clear hb0
  have HZ := Lib.hid hz0; clear hz0
  have F0 := Lib.hid hF; clear hF
  have B0 := Lib.hid (Below.refl w0.heap.size w0)
  obtain ⟨r1, hr1⟩ : ∃ r, r = isLB xss := ⟨_, rfl⟩
  have HR1 := Lib.hid hr1; clear hr1
  obtain ⟨r2, hr2⟩ : ∃ r, r = isLB yss := ⟨_, rfl⟩
  have HR2 := Lib.hid hr2; clear hr2
  go_enter Tryz.func13, Tryz.ntmps13
  go_wp2_with fail
  rw [← Hw.out, ← Hbe.out]
  obtain ⟨k1, k2, k3, f3, _⟩ := F0.out
  refine (l16Is_any A1 n1 c1 _ xss _ (H1.out.below B0.out) (by omega) (by omega)).mono ?_
  rintro e w1 ⟨rfl, q1, hq1⟩
  have hb1 := below_drewN (Below.refl w0.heap.size w0) q1
  rw [← hq1] at hb1
  clear hq1
  have B1 := Lib.hid (B0.out.trans (hb1.mono B0.out.size)); clear hb1
  obtain ⟨k1, k2, k3, f3, _⟩ := F0.out.below B1.out
  rw [← HR1.out]
  cases r1
  · have HV := Lib.hid (addO_bad1 (b := yss) HR1.out.symm)
    have hres := cell_set (v := .slice none 0 0) k3
    go_wp2_with fail
    refine bodyPost_ret (v := .tuple #[.agg #[.slice none 0 0], .int .i64 1]) (by simp [results, Tryz.results13, go_sem, hres]) rfl ?_
    exact RetMC.bad (by rw [HV.out]; rfl) (by rw [HV.out]) (by rw [HV.out]) Hb0.out B1.out (by rw [HZ.out, ← Hbe.out]; omega)
    
  · go_wp2_with fail
    refine (l16Is_any A2 n2 c2 _ yss _ (H2.out.below B1.out) (by omega) (by omega)).mono ?_
    rintro e w2 ⟨rfl, q2, hq2⟩
    have hb2 := below_drewN (Below.refl w1.heap.size w1) q2
    rw [← hq2] at hb2
    clear hq2
    have B2 := Lib.hid (B1.out.trans (hb2.mono B1.out.size)); clear hb2
    obtain ⟨k1, k2, k3, f3, _⟩ := F0.out.below B2.out
    rw [← HR2.out]
    cases r2
    · have HV := Lib.hid (addO_bad2 (a := xss) HR2.out.symm)
      have hres := cell_set (v := .slice none 0 0) k3
      go_wp2_with fail
      refine bodyPost_ret (v := .tuple #[.agg #[.slice none 0 0], .int .i64 1]) (by simp [results, Tryz.results13, go_sem, hres]) rfl ?_
      exact RetMC.bad (by rw [HV.out]; rfl) (by rw [HV.out]) (by rw [HV.out]) Hb0.out B2.out (by rw [HZ.out, ← Hbe.out]; omega)
      
    · clear k1 k2 k3 f3
      obtain ⟨k1, k2, k3, f3, _⟩ := F0.out.below B2.out
      rcases Nat.eq_zero_or_pos n1 with rfl | hz1
      · have HF : Hid (fits xss yss) := Lib.hid (by unfold fits; rw [HE1.out]; rfl)
        go_wp2_with fail
        go_quiet (fail)
        rename_i nq
        clear k1 k2 k3 f3
        have B3 := Lib.hid (below_drewN B2.out nq)
        obtain ⟨k1, k2, k3, f3, _⟩ := F0.out.below B3.out
        go_wp2_with fail
        refine (l01Sum_any _ _ _ c1 _ c2 xss yss _ ((H1.out.below B3.out).mono B3.out.size) ((H2.out.below B3.out).mono B3.out.size) (by omega) (by omega) (by omega) (by omega) (isLB_asc HR1.out.symm) (isLB_asc HR2.out.symm)).mono ?_
        rintro e w4 ⟨A4, c4, rfl, ho4, hb4⟩
        have R4 := Lib.hid ho4.rd; clear ho4
        have B4 := Lib.hid (B3.out.trans (hb4.mono B3.out.size)); clear hb4
        obtain ⟨k1, k2, k3, f3, _⟩ := F0.out.below B4.out
        go_wp2_with fail
        refine (own2_any A4 _ c4 _ _ R4.out (by have := HLen.out; omega) (by have := HTot.out; omega)).mono ?_
        rintro e w5 ⟨A5, c5, rfl, ho5, hb5⟩
        have O5 := Lib.hid (ho5.mono B4.out.size (Nat.le_refl _)); clear ho5
        have B5 := Lib.hid (B4.out.trans (hb5.mono B4.out.size)); clear hb5
        obtain ⟨k1, k2, k3, f3, _⟩ := F0.out.below B5.out
        have M5 := Lib.hid (show OwnM w5 w0.heap.size w5.heap.size A5 _ c5 _ from ⟨O5.out, O5.out.lt⟩)
        obtain ⟨l, hl⟩ : ∃ l, l = (oddL (xss ++ yss)).length := ⟨_, rfl⟩
        have HL := Lib.hid hl
        rw [← hl] at M5 O5 ⊢
        have hlb : l ≤ 4000000 := by rw [hl]; exact HLen.out
        clear hl
        have hres := cell_set (v := .slice A5 l c5) k3
        by_cases hl2 : l ≤ 2000
        · have HV := Lib.hid (addO_ok HR1.out.symm HR2.out.symm HF.out (by rw [← HL.out]; exact hl2))
          go_wp2_with fail
          refine bodyPost_ret (v := .tuple #[.agg #[.slice A5 l c5], .int .i64 0]) (by simp [results, Tryz.results13, go_sem, hres]) rfl ?_
          exact RetMC.mk (by rw [HV.out]; exact HL.out) (by rw [HV.out]) (by rw [HV.out]) Hb0.out B5.out (by rw [HZ.out, ← Hbe.out]; omega) M5.out (Nat.le_refl _)
        · have HV := Lib.hid (addO_lim HR1.out.symm HR2.out.symm HF.out (by rw [← HL.out]; exact hl2))
          clear hres
          have hres := cell_set (v := .slice none 0 0) k3
          go_wp2_with fail
          refine bodyPost_ret (v := .tuple #[.agg #[.slice none 0 0], .int .i64 3]) (by simp [results, Tryz.results13, go_sem, hres]) rfl ?_
          exact RetMC.bad (by rw [HV.out]; rfl) (by rw [HV.out]) (by rw [HV.out]) Hb0.out B5.out (by rw [HZ.out, ← Hbe.out]; omega)
      · rcases Nat.eq_zero_or_pos n2 with rfl | hz2
        · have HF : Hid (fits xss yss) := Lib.hid (by unfold fits; rw [HE2.out]; simp)
          have hp1 : decide ((0 : Int) < (n1 : Int)) = true := by simpa using hz1
          go_wp2_with fail
          go_quiet (fail)
          rename_i nq
          clear k1 k2 k3 f3
          have B3 := Lib.hid (below_drewN B2.out nq)
          obtain ⟨k1, k2, k3, f3, _⟩ := F0.out.below B3.out
          go_wp2_with fail
          refine (l01Sum_any _ _ _ c1 _ c2 xss yss _ ((H1.out.below B3.out).mono B3.out.size) ((H2.out.below B3.out).mono B3.out.size) (by omega) (by omega) (by omega) (by omega) (isLB_asc HR1.out.symm) (isLB_asc HR2.out.symm)).mono ?_
          rintro e w4 ⟨A4, c4, rfl, ho4, hb4⟩
          have R4 := Lib.hid ho4.rd; clear ho4
          have B4 := Lib.hid (B3.out.trans (hb4.mono B3.out.size)); clear hb4
          obtain ⟨k1, k2, k3, f3, _⟩ := F0.out.below B4.out
          go_wp2_with fail
          refine (own2_any A4 _ c4 _ _ R4.out (by have := HLen.out; omega) (by have := HTot.out; omega)).mono ?_
          rintro e w5 ⟨A5, c5, rfl, ho5, hb5⟩
          have O5 := Lib.hid (ho5.mono B4.out.size (Nat.le_refl _)); clear ho5
          have B5 := Lib.hid (B4.out.trans (hb5.mono B4.out.size)); clear hb5
          obtain ⟨k1, k2, k3, f3, _⟩ := F0.out.below B5.out
          have M5 := Lib.hid (show OwnM w5 w0.heap.size w5.heap.size A5 _ c5 _ from ⟨O5.out, O5.out.lt⟩)
          obtain ⟨l, hl⟩ : ∃ l, l = (oddL (xss ++ yss)).length := ⟨_, rfl⟩
          have HL := Lib.hid hl
          rw [← hl] at M5 O5 ⊢
          have hlb : l ≤ 4000000 := by rw [hl]; exact HLen.out
          clear hl
          have hres := cell_set (v := .slice A5 l c5) k3
          by_cases hl2 : l ≤ 2000
          · have HV := Lib.hid (addO_ok HR1.out.symm HR2.out.symm HF.out (by rw [← HL.out]; exact hl2))
            go_wp2_with fail
            refine bodyPost_ret (v := .tuple #[.agg #[.slice A5 l c5], .int .i64 0]) (by simp [results, Tryz.results13, go_sem, hres]) rfl ?_
            exact RetMC.mk (by rw [HV.out]; exact HL.out) (by rw [HV.out]) (by rw [HV.out]) Hb0.out B5.out (by rw [HZ.out, ← Hbe.out]; omega) M5.out (Nat.le_refl _)
          · have HV := Lib.hid (addO_lim HR1.out.symm HR2.out.symm HF.out (by rw [← HL.out]; exact hl2))
            clear hres
            have hres := cell_set (v := .slice none 0 0) k3
            go_wp2_with fail
            refine bodyPost_ret (v := .tuple #[.agg #[.slice none 0 0], .int .i64 3]) (by simp [results, Tryz.results13, go_sem, hres]) rfl ?_
            exact RetMC.bad (by rw [HV.out]; rfl) (by rw [HV.out]) (by rw [HV.out]) Hb0.out B5.out (by rw [HZ.out, ← Hbe.out]; omega)
        · have HN1 : Hid (xss.isEmpty = false) := Lib.hid (by rw [HE1.out]; simp; omega)
          have HN2 : Hid (yss.isEmpty = false) := Lib.hid (by rw [HE2.out]; simp; omega)
          have HSq : Hid (sizeEq xss yss = (decide ((xss.headD []).length = (yss.headD []).length) && decide (psT 0 (xss.headD []) = psT 0 (yss.headD [])))) := Lib.hid rfl
          obtain ⟨ad3, A3, n3, c3, x0, rfl, _, hx0, hc3, hr3⟩ := (H1.out.below B2.out).at_ hz1
          obtain ⟨ad4, A4, n4, c4, y0, rfl, _, hy0, hc4, hr4⟩ := (H2.out.below B2.out).at_ hz2
          have hh3 : xss.headD [] = x0 := by
            have := hx0.out
            cases xss with
            | nil => simp at this
            | cons y ys => simpa using this
          have hh4 : yss.headD [] = y0 := by
            have := hy0.out
            cases yss with
            | nil => simp at this
            | cons y ys => simpa using this
          rw [hh3, hh4] at HSq
          have hc33 : w2.cell? ad3 = some (.slice A3 n3 c3) := by simpa [Addr.add] using hc3
          have hc44 : w2.cell? ad4 = some (.slice A4 n4 c4) := by simpa [Addr.add] using hc4
          have hn3 : n3 ≤ 2000000 := by rw [← hr3.len]; exact HX1.out x0 (List.mem_of_getElem? hx0.out)
          have hn4 : n4 ≤ 2000000 := by rw [← hr4.len]; exact HX2.out y0 (List.mem_of_getElem? hy0.out)
          have Hl3 := Lib.hid hr3.len
          have Hl4 := Lib.hid hr4.len
          have Hs3 := fun W : Nat => Lib.hid (show Calls Tryz.prog 32 #[.slice A3 n3 c3] (w2.drewN W) (fun e w'' => e = .returned (.int .i64 (psT 0 x0)) ∧ ∃ m, w'' = (w2.drewN W).drewN m) from (stem_any A3 n3 c3 _ x0 (w2.drewN W) (hr3.drewN W) (by omega)).mono fun e w' h => ⟨h.1, 0, h.2⟩)
          have Hs4 := fun W : Nat => Lib.hid (show Calls Tryz.prog 32 #[.slice A4 n4 c4] (w2.drewN W) (fun e w'' => e = .returned (.int .i64 (psT 0 y0)) ∧ ∃ m, w'' = (w2.drewN W).drewN m) from (stem_any A4 n4 c4 _ y0 (w2.drewN W) (hr4.drewN W) (by omega)).mono fun e w' h => ⟨h.1, 0, h.2⟩)
          have hp1 : decide ((0 : Int) < (n1 : Int)) = true := by simpa using hz1
          have hp2 : decide ((0 : Int) < (n2 : Int)) = true := by simpa using hz2
          have hq1 : (0 : Int) < (n1 : Int) := by omega
          have hq2 : (0 : Int) < (n2 : Int) := by omega
          clear hc3 hc4 hr3 hr4 hh3 hh4 hx0 hy0
          by_cases hlen : n3 = n4
          · subst hlen
            have hne2 : ((n3 : Int) != (n3 : Int)) = false := by simp
            by_cases hst : psT 0 x0 = psT 0 y0
            · have HF : Hid (fits xss yss) := Lib.hid (by unfold fits; rw [HSq.out]; simp [hst, Hl3.out, Hl4.out])
              obtain ⟨u, hu⟩ : ∃ u, u = psT 0 x0 := ⟨_, rfl⟩
              rw [← hst, ← hu] at Hs4
              rw [← hu] at Hs3
              have hne1 : (u != u) = false := by simp
              clear hst hu
              go_wp2_with fail
              go_quiet (first | (go_at_call_of 32 A3; first | exact Calls.quiet_of ((Hs3 _).out) | exact quiet_add ((Hs3 _).out)) | (go_at_call_of 32 A4; first | exact Calls.quiet_of ((Hs4 _).out) | exact quiet_add ((Hs4 _).out)))
              rename_i nq
              clear k1 k2 k3 f3 Hs3 Hs4 hc33 hc44
              have B3 := Lib.hid (below_drewN B2.out nq)
              obtain ⟨k1, k2, k3, f3, _⟩ := F0.out.below B3.out
              go_wp2_with fail
              refine (l01Sum_any _ _ _ c1 _ c2 xss yss _ ((H1.out.below B3.out).mono B3.out.size) ((H2.out.below B3.out).mono B3.out.size) (by omega) (by omega) (by omega) (by omega) (isLB_asc HR1.out.symm) (isLB_asc HR2.out.symm)).mono ?_
              rintro e w4 ⟨A4, c4, rfl, ho4, hb4⟩
              have R4 := Lib.hid ho4.rd; clear ho4
              have B4 := Lib.hid (B3.out.trans (hb4.mono B3.out.size)); clear hb4
              obtain ⟨k1, k2, k3, f3, _⟩ := F0.out.below B4.out
              go_wp2_with fail
              refine (own2_any A4 _ c4 _ _ R4.out (by have := HLen.out; omega) (by have := HTot.out; omega)).mono ?_
              rintro e w5 ⟨A5, c5, rfl, ho5, hb5⟩
              have O5 := Lib.hid (ho5.mono B4.out.size (Nat.le_refl _)); clear ho5
              have B5 := Lib.hid (B4.out.trans (hb5.mono B4.out.size)); clear hb5
              obtain ⟨k1, k2, k3, f3, _⟩ := F0.out.below B5.out
              have M5 := Lib.hid (show OwnM w5 w0.heap.size w5.heap.size A5 _ c5 _ from ⟨O5.out, O5.out.lt⟩)
              obtain ⟨l, hl⟩ : ∃ l, l = (oddL (xss ++ yss)).length := ⟨_, rfl⟩
              have HL := Lib.hid hl
              rw [← hl] at M5 O5 ⊢
              have hlb : l ≤ 4000000 := by rw [hl]; exact HLen.out
              clear hl
              have hres := cell_set (v := .slice A5 l c5) k3
              by_cases hl2 : l ≤ 2000
              · have HV := Lib.hid (addO_ok HR1.out.symm HR2.out.symm HF.out (by rw [← HL.out]; exact hl2))
                go_wp2_with fail
                refine bodyPost_ret (v := .tuple #[.agg #[.slice A5 l c5], .int .i64 0]) (by simp [results, Tryz.results13, go_sem, hres]) rfl ?_
                exact RetMC.mk (by rw [HV.out]; exact HL.out) (by rw [HV.out]) (by rw [HV.out]) Hb0.out B5.out (by rw [HZ.out, ← Hbe.out]; omega) M5.out (Nat.le_refl _)
              · have HV := Lib.hid (addO_lim HR1.out.symm HR2.out.symm HF.out (by rw [← HL.out]; exact hl2))
                clear hres
                have hres := cell_set (v := .slice none 0 0) k3
                go_wp2_with fail
                refine bodyPost_ret (v := .tuple #[.agg #[.slice none 0 0], .int .i64 3]) (by simp [results, Tryz.results13, go_sem, hres]) rfl ?_
                exact RetMC.bad (by rw [HV.out]; rfl) (by rw [HV.out]) (by rw [HV.out]) Hb0.out B5.out (by rw [HZ.out, ← Hbe.out]; omega)
            · have HV : Hid (addO xss yss = (2, [])) := Lib.hid (addO_range HR1.out.symm HR2.out.symm HN1.out HN2.out (by rw [HSq.out]; simp [hst]))
              obtain ⟨u, hu⟩ : ∃ u, u = psT 0 x0 := ⟨_, rfl⟩
              obtain ⟨t, ht⟩ : ∃ t, t = psT 0 y0 := ⟨_, rfl⟩
              rw [← hu, ← ht] at hst
              rw [← ht] at Hs4
              rw [← hu] at Hs3
              clear hu ht
              have hne1 : (u == t) = false := by simpa using hst
              have hne2 : (u != t) = true := by simpa using hst
              clear hst
              go_wp2_with fail
              go_quiet (first | (go_at_call_of 32 A3; first | exact Calls.quiet_of ((Hs3 _).out) | exact quiet_add ((Hs3 _).out)) | (go_at_call_of 32 A4; first | exact Calls.quiet_of ((Hs4 _).out) | exact quiet_add ((Hs4 _).out)))
              rename_i nq
              clear k1 k2 k3 f3 Hs3 Hs4 hc33 hc44
              have B3 := Lib.hid (below_drewN B2.out nq)
              obtain ⟨k1, k2, k3, f3, _⟩ := F0.out.below B3.out
              have hres := cell_set (v := .slice none 0 0) k3
              go_wp2_with fail
              refine bodyPost_ret (v := .tuple #[.agg #[.slice none 0 0], .int .i64 2]) (by simp [results, Tryz.results13, go_sem, hres]) rfl ?_
              exact RetMC.bad (by rw [HV.out]; rfl) (by rw [HV.out]) (by rw [HV.out]) Hb0.out B3.out (by rw [HZ.out, ← Hbe.out]; omega)
          · have HV : Hid (addO xss yss = (2, [])) := Lib.hid (addO_range HR1.out.symm HR2.out.symm HN1.out HN2.out (by rw [HSq.out, Hl3.out, Hl4.out]; simp [hlen]))
            have hne1 : ((n3 : Int) == (n4 : Int)) = false := by simp; omega
            have hne2 : ((n3 : Int) != (n4 : Int)) = true := by simp; omega
            have hne3 : (n3 == n4) = false := by simp; omega
            clear hlen Hs3 Hs4
            go_wp2_with fail
            go_quiet (fail)
            rename_i nq
            clear k1 k2 k3 f3 hc33 hc44
            have B3 := Lib.hid (below_drewN B2.out nq)
            obtain ⟨k1, k2, k3, f3, _⟩ := F0.out.below B3.out
            have hres := cell_set (v := .slice none 0 0) k3
            go_wp2_with fail
            refine bodyPost_ret (v := .tuple #[.agg #[.slice none 0 0], .int .i64 2]) (by simp [results, Tryz.results13, go_sem, hres]) rfl ?_
            exact RetMC.bad (by rw [HV.out]; rfl) (by rw [HV.out]) (by rw [HV.out]) Hb0.out B3.out (by rw [HZ.out, ← Hbe.out]; omega)
end Go.Proofs.YtgmbbpaokcjnhaaGreatDoor
