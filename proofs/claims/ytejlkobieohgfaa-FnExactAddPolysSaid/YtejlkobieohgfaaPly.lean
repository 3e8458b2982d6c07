/- IsPoly on both sides: conditions on monomials. -/
import Derived.Test.YtejlkobieohgfaaIsLam
namespace Go.Proofs.Ytejlkobieohgfaa
open Go.RowKit
set_option linter.unusedVariables false

def degsB (xs : List Int) : Bool := xs.all (fun x => inB x 0 40)
def monB (v : Int) (xs : List Int) : Bool := decide ((xs.length : Int) = v) && degsB xs && decide (psT 0 xs ≤ 40)
def polB (v : Int) (xss : List (List Int)) : Bool := inB v 1 4 && decide (xss.length ≤ 2000) && xss.all (monB v) && risB xss && sameB (psT 0) xss

theorem isDegree_any (n : Int) (w : World) : Calls Try.prog 96 #[.int .i64 n] w (RetP (inB n 0 40) w) := by
  go_enter Try.func96, Try.ntmps96
  go_wp2_with fail
  refine (in_any _ _ _ _).mono ?_
  rintro e w' ⟨rfl, rfl⟩
  go_wp2_with fail
  go_ret
  exact RetP.mk rfl
theorem isCount_any (n : Int) (w : World) : Calls Try.prog 117 #[.int .i64 n] w (RetP (inB n 1 4) w) := by
  go_enter Try.func117, Try.ntmps117
  go_wp2_with fail
  refine (in_any _ _ _ _).mono ?_
  rintro e w' ⟨rfl, rfl⟩
  go_wp2_with fail
  go_ret
  exact RetP.mk rfl
theorem degsAll_any (A : Option Addr) (n c : Nat) (xs : List Int) (w : World) (h : RdS w w.heap.size A n c xs) (hn : n ≤ 2000000) :
    Calls Try.prog 113 #[.slice A n c, .func (.func 96) #[] #[]] w (RetBb (degsB xs) w) := by
  have hl := h.len
  refine (allI_any A n c xs _ _ _ w h hn (cond_of (fun x => inB x 0 40) (enters_of Try.func96 (by kernel_rfl) rfl) isDegree_any xs w)).mono ?_
  intro e w' hw
  rw [all_range xs (fun x => inB x 0 40) _ n hl (fun j hj => by simp [List.getElem?_eq_getElem hj])] at hw
  exact hw

theorem isMonomial_any (A : Option Addr) (n c : Nat) (xs : List Int) (v : Int) (w : World) (h : RdS w w.heap.size A n c xs) (hn : n ≤ 2000000) :
    Calls Try.prog 118 #[.slice A n c, .int .i64 v] w (RetBb (monB v xs) w) := by
  have Hl := Lib.hid h.len
  have H := Lib.hid h; clear h
  by_cases hv : (n : Int) = v
  · cases hf : degsB xs
    · have HV : Hid (monB v xs = false) := Lib.hid (by simp [monB, hf])
      have HF := Lib.hid hf; clear hf
      have hb1 : ((n : Int) == v) = true := by simpa using hv
      clear hv
      go_enter Try.func118, Try.ntmps118
      go_wp2_with fail
      refine (degsAll_any A n c xs _ H.out (by omega)).mono ?_
      rintro e w1 ⟨rfl, hb1⟩
      rw [HF.out]
      go_wp2_with fail
      go_ret
      exact RetBb.mk (b' := false) HV.out.symm hb1
    · obtain ⟨t, ht⟩ : ∃ t, t = psT 0 xs := ⟨_, rfl⟩
      have HV : Hid (monB v xs = decide (t ≤ 40)) := Lib.hid (by simp [monB, hf, Hl.out, hv, ht])
      have HF := Lib.hid hf; clear hf
      have HT := Lib.hid ht
      clear ht
      have hb1 : ((n : Int) == v) = true := by simpa using hv
      clear hv
      go_enter Try.func118, Try.ntmps118
      go_wp2_with fail
      refine (degsAll_any A n c xs _ H.out (by omega)).mono ?_
      rintro e w1 ⟨rfl, hb1⟩
      rw [HF.out]
      have HB1 := Lib.hid hb1; clear hb1
      go_wp2_with fail
      refine (sum_any A n c _ xs _ (H.out.below HB1.out) (by omega)).mono ?_
      rintro e w2 ⟨rfl, rfl⟩
      rw [← HT.out]
      go_wp2_with fail
      go_ret
      exact RetBb.mk (b' := decide (t ≤ 40)) HV.out.symm HB1.out
  · have HV : Hid (monB v xs = false) := Lib.hid (by simp [monB, Hl.out, hv])
    have hb1 : ((n : Int) == v) = false := by simpa using hv
    clear hv
    go_enter Try.func118, Try.ntmps118
    go_wp2_with fail
    go_ret
    exact RetBb.mk (b' := false) HV.out.symm (Below.refl _ _)

theorem isPoly1_any (g : Nat) (v : Int) (A : Option Addr) (n c : Nat) (xs : List Int) (w : World) (hc : w.cell? ⟨g, 0, none⟩ = some (.int .i64 v)) (h : RdS w w.heap.size A n c xs) (hn : n ≤ 2000000) :
    Calls Try.prog 128 #[.slice A n c, .pointer (some ⟨g, 0, none⟩)] w (RetBb (monB v xs) w) := by
  have H := Lib.hid h; clear h
  go_enter Try.func128, Try.ntmps128
  go_wp2_with fail
  refine (isMonomial_any A n c xs v _ H.out hn).mono ?_
  rintro e w1 ⟨rfl, hb1⟩
  go_wp2_with fail
  go_ret
  exact RetBb.mk rfl hb1
theorem isPoly1_cond (g : Nat) (v : Int) (xss : List (List Int)) (w : World) (hc : w.cell? ⟨g, 0, none⟩ = some (.int .i64 v)) (hg : g < w.heap.size) (hx : ∀ x ∈ xss, x.length ≤ 2000000) :
    CondL 128 #[.pointer (some ⟨g, 0, none⟩)] xss (fun j => monB v (xss[j]?.getD [])) w := by
  refine ⟨enters_of Try.func128 (by kernel_rfl) rfl, fun j A' n' c' xs hv w' hb hr => ?_⟩
  have hgx : xss[j]?.getD [] = xs := by simp [hv]
  rw [hgx]
  exact isPoly1_any g v A' n' c' xs w' ((hb.cell (p := ⟨g, 0, none⟩) hg).trans hc) hr (by rw [← hr.len]; exact hx xs (List.mem_of_getElem? hv))

theorem iIsPoly (v : Int) (A : Option Addr) (n c : Nat) (xss : List (List Int)) (w : World) (h : RdL w w.heap.size A n c xss) (hn : n ≤ 2000000) (ht : totalL xss ≤ 2000000) :
    Calls Try.prog 80 #[.agg #[.int .i64 v, .slice A n c]] w (RetBb (polB v xss) w) := by
  have hx : ∀ x ∈ xss, x.length ≤ 2000000 := fun x hx => Nat.le_trans (len_le_of_total hx) ht
  have hl := h.len
  have hb0 : Below w.heap.size w (w.alloc (.cells #[.int .i64 v, .slice A n c] 28)) := (Below.refl _ _).alloc (Nat.le_refl _) _
  have H := Lib.hid ((h.below hb0).mono hb0.size); clear h
  have HX := Lib.hid hx; clear hx
  have HL := Lib.hid hl; clear hl
  have Hb0 := Lib.hid hb0; clear hb0
  have HC0 : Hid ((w.alloc (.cells #[.int .i64 v, .slice A n c] 28)).cell? ⟨w.heap.size, 0, none⟩ = some (.int .i64 v)) := Lib.hid (by simp)
  have HC1 : Hid ((w.alloc (.cells #[.int .i64 v, .slice A n c] 28)).cell? ⟨w.heap.size, 1, none⟩ = some (.slice A n c)) := Lib.hid (by simp)
  obtain ⟨m, hm⟩ : ∃ m, m = xss.all (monB v) := ⟨_, rfl⟩
  have Hm := Lib.hid hm
  have Hall := Lib.hid (allL_any A n c xss _ _ _ _ H.out hn (isPoly1_cond w.heap.size v xss _ HC0.out (by simp) HX.out))
  rw [allR_rows (monB v) HL.out, ← hm] at Hall
  clear hm
  obtain ⟨i, hi⟩ : ∃ i, i = inB v 1 4 := ⟨_, rfl⟩
  have Hi := Lib.hid hi; clear hi
  go_enter Try.func80, Try.ntmps80
  go_wp2_with fail
  refine (Hall.out).mono ?_
  rintro e w1 ⟨rfl, hb1⟩
  have hc0 := box_cell hb1 HC0.out
  have hc1 := box_cell hb1 HC1.out
  have Hb1 := Lib.hid hb1; clear hb1
  go_wp2_with fail
  refine (isCount_any _ _).mono ?_
  rintro e w2 ⟨rfl, rfl⟩
  rw [← Hi.out]
  cases i
  · have HV : Hid (polB v xss = false) := Lib.hid (by simp [polB, ← Hi.out])
    go_wp2_with fail
    go_ret
    exact RetBb.mk (b' := false) HV.out.symm (Hb0.out.trans (Hb1.out.mono Hb0.out.size))
  · by_cases h1 : n ≤ 2000
    · have hd1 : decide ((n : Int) ≤ 2000) = true := by simp; omega
      cases m
      · have HV : Hid (polB v xss = false) := Lib.hid (by simp [polB, ← Hm.out])
        go_wp2_with fail
        go_ret
        exact RetBb.mk (b' := false) HV.out.symm (Hb0.out.trans (Hb1.out.mono Hb0.out.size))
      · cases hr : risB xss
        · have HV : Hid (polB v xss = false) := Lib.hid (by simp [polB, hr])
          have HR := Lib.hid hr; clear hr
          go_wp2_with fail
          refine (rising_any A n c _ xss _ (H.out.below Hb1.out) (by omega) (by have := HX.out; omega)).mono ?_
          rintro e w2 ⟨rfl, q2, rfl⟩
          rw [HR.out]
          go_wp2_with fail
          go_ret
          exact RetBb.mk (b' := false) HV.out.symm (below_drewN (Hb0.out.trans (Hb1.out.mono Hb0.out.size)) _)
        · have HV : Hid (polB v xss = sameB (psT 0) xss) := Lib.hid (by simp only [polB, hr, ← Hi.out, ← Hm.out, HL.out, h1]; simp)
          have HR := Lib.hid hr; clear hr
          go_wp2_with fail
          refine (rising_any A n c _ xss _ (H.out.below Hb1.out) (by omega) (by have := HX.out; omega)).mono ?_
          rintro e w2 ⟨rfl, q2, rfl⟩
          rw [HR.out]
          go_wp2_with fail
          refine (sameDegreeS_any A n c xss _ ((H.out.below (below_drewN Hb1.out q2)).mono Hb1.out.size) hn HX.out).mono ?_
          rintro e w3 ⟨rfl, hb3⟩
          have Hb3 := Lib.hid ((below_drewN Hb1.out q2).trans (hb3.mono Hb1.out.size)); clear hb3
          go_wp2_with fail
          go_ret
          exact RetBb.mk HV.out.symm (Hb0.out.trans (Hb3.out.mono Hb0.out.size))
    · have HV : Hid (polB v xss = false) := Lib.hid (by simp [polB, HL.out, h1])
      have hd1 : decide ((n : Int) ≤ 2000) = false := by simp; omega
      go_wp2_with fail
      go_ret
      exact RetBb.mk (b' := false) HV.out.symm (Hb0.out.trans (Hb1.out.mono Hb0.out.size))
end Go.Proofs.Ytejlkobieohgfaa
