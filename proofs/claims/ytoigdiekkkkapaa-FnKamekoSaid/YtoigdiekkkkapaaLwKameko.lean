/- The walk of FnKameko. -/
import Derived.Test.YtoigdiekkkkapaaDrw
import Derived.Test.YtoigdiekkkkapaaKamI
import Derived.Test.YtoigdiekkkkapaaWgt
import Derived.Test.YtoigdiekkkkapaaLwh
import Derived.Test.YtoigdiekkkkapaaHitB
import Derived.Test.YtoigdiekkkkapaaKmp
namespace Go.Proofs.Ytoigdiekkkkapaa
open Go.RowKit
set_option linter.unusedVariables false

/-- Kameko's map down undoes the map up -/
theorem kam_back {v u : Int} {xss ys : List (List Int)} (h : kamO v xss = (u, ys, 0)) : kdmO u ys = (v, xss, 0) := by
  cases hp : polB v xss
  · rw [kamO_bad hp] at h; simp at h
  · by_cases hl : xss.length = 0 ∨ ¬ 40 < 2 * degL xss + v
    · rw [kamO_ok hp hl] at h
      injection h with h1 h2
      injection h2 with h3 _
      subst h1; subst h3
      rw [kdmO_ok (polB_of (up_polF (polF_of hp) hl)), kd_up]
    · have h2 : 0 < xss.length := by omega
      have h3 : 40 < 2 * degL xss + v := by
        by_cases h4 : 40 < 2 * degL xss + v
        · exact h4
        · exact absurd (.inr h4) hl
      rw [kamO_lim hp h2 h3] at h
      simp at h
theorem kdmO_bounds (v : Int) (xss : List (List Int)) : (kdmO v xss).2.1.length ≤ 2000 ∧ totalL (kdmO v xss).2.1 ≤ 8000 := by
  unfold kdmO
  split
  · rename_i h
    have hF := polF_of h
    have := kd_total (fun y hy => by have := (hF.each y hy).1; have := hF.hi; omega) hF.len xss.length
    rw [List.take_length] at this
    exact ⟨this.2, this.1⟩
  · simp [totalL]
theorem kdm_inv {v u : Int} {xss ys : List (List Int)} (h : kdmO v xss = (u, ys, 0)) : polB v xss = true ∧ u = v ∧ ys = kd xss := by
  cases hp : polB v xss
  · rw [kdmO_bad hp] at h; simp at h
  · rw [kdmO_ok hp] at h
    injection h with h1 h2
    injection h2 with h3 _
    exact ⟨rfl, h1.symm, h3.symm⟩
theorem hit_code {v : Int} {f : Pol} (h : hitB v f = true) : (nrmO v f).2.2 = 0 := by
  unfold hitB at h
  rw [Bool.and_eq_true] at h
  exact of_decide_eq_true h.1
theorem wt_inv {x ws : List Int} (h : wtO x = (ws, 0)) : WtF x ∧ ws = trimL (wgtL x 6) := by
  cases hp : wtB x
  · rw [wtO_bad hp] at h; simp at h
  · rw [wtO_ok hp] at h
    injection h with h1 _
    exact ⟨wtF_of hp, h1.symm⟩
theorem wt_sum {x ws : List Int} (h : wtO x = (ws, 0)) : sc ws 1 = x.sum := by
  obtain ⟨hF, rfl⟩ := wt_inv h
  rw [trim_blind (fun p => sc p 1) (fun p => by simp [sc_snoc]) (wgtL x 6)]
  exact sc_sum fun n hn => by have := hF.each n hn; omega
theorem wt_each {x ws : List Int} {k : Int} (h : wtO x = (ws, k)) : ws.length ≤ 6 ∧ ∀ z ∈ ws, 0 ≤ z ∧ z ≤ 4 := by
  cases hp : wtB x
  · rw [wtO_bad hp] at h; injection h with h1 _; subst h1; simp
  · rw [wtO_ok hp] at h
    injection h with h1 _
    subst h1
    have hF := wtF_of hp
    refine ⟨Nat.le_trans (trimL_len _) (by rw [wgtL_len]; exact Nat.le_refl _), fun z hz => ?_⟩
    have := trimL_mem _ z hz
    unfold wgtL at this
    obtain ⟨i, _, rfl⟩ := List.mem_map.1 this
    have := wgt_len x i
    have := hF.hi
    omega
theorem sc_take {ws : List Int} {k : Nat} {z : Int} (h : ws[k]? = some z) : sc (ws.take (k + 1)) 1 = sc (ws.take k) 1 + 2 ^ k * z := by
  have hk := (List.getElem?_eq_some_iff.1 h).1
  rw [List.take_add_one, h]
  show sc (ws.take k ++ [z]) 1 = _
  rw [sc_snoc, List.length_take, Nat.min_eq_left (Nat.le_of_lt hk), Int.one_mul]

set_option maxRecDepth 100000 in
set_option maxHeartbeats 4000000 in
theorem lawKameko (A : Option Addr) (n c : Nat) (w : World) (h : RdB w w.heap.size A n c) :
    Calls Try.prog 3 #[.slice A n c] w fun e w' => e = .returned (.bool true) ∧ Below w.heap.size w w' := by
  obtain ⟨R, hR⟩ : ∃ R : Ending → World → Prop, R = fun e w' => e = .returned (.bool true) ∧ Below w.heap.size w w' := ⟨_, rfl⟩
  have HR := Lib.hid hR
  rw [← hR]
  clear hR
  go_enter Try.func3, Try.ntmps3
  go_wp2_with fail
  refine (bigLaw_any A n c w).mono ?_
  rintro e w1 ⟨rfl, hw1⟩
  obtain rfl := hw1.symm
  by_cases hn : 4096 < n
  · rw [decide_eq_true hn]
    go_wp2_with fail
    rw [HR.out]
    exact ⟨rfl, Below.refl _ _⟩
  rw [decide_eq_false hn]
  have hN : n ≤ 4096 := by omega
  clear hn
  go_wp2_with fail
  have HB : Hid (From w w) := Lib.hid ⟨Ext.refl w⟩
  refine (drawKamekoDown_any A n c w ((h.below HB.out.b).mono HB.out.b.size) hN).mono ?_
  rintro e w2 ⟨v, A1, n1, c1, xss, rfl, ho, hn1, htxss, hb⟩
  replace HB := Lib.hid (HB.out.ext hb)
  have hrxss := ho.rd
  clear ho hb
  have F := Lib.hid (BoxP.new (v := v) (hrxss) 26 rfl)
  obtain ⟨w3, hw3⟩ : ∃ W, W = w2.alloc (.cells #[.int .i64 v, .slice A1 n1 c1] 26) := ⟨_, rfl⟩
  obtain ⟨q1, hq1⟩ : ∃ q, q = w2.heap.size := ⟨_, rfl⟩
  rw [← hw3, ← hq1] at F
  have ew3 : Ext w2 w3 := by rw [hw3]; exact (Ext.refl _).alloc _
  replace HB := Lib.hid (HB.out.ext ew3)
  have Hw3 := Lib.hid hw3
  have Hq1 := Lib.hid hq1
  clear hw3 hq1 ew3
  go_wp2_with fail
  rw [← Hw3.out, ← Hq1.out]
  clear hrxss
  obtain ⟨o, ho⟩ : ∃ o, o = kdmO v xss := ⟨_, rfl⟩
  obtain ⟨u1, ys, k1⟩ := o
  have HO1 := Lib.hid ho.symm
  clear ho
  have hy1 : ys.length ≤ 2000 ∧ totalL ys ≤ 8000 := by have hh := kdmO_bounds v xss; rw [HO1.out] at hh; exact hh
  refine (show Calls Try.prog 6 #[.agg #[.int .i64 v, .slice A1 n1 c1]] _ (RetNC u1 ys.length ys k1 _) from by have hc := iKamekoDown v A1 n1 c1 xss _ F.out.rd (by omega) (by omega); rw [HO1.out] at hc; exact hc).mono ?_
  rintro e w4 ⟨A2, c2, rfl, ho, hb⟩
  replace HB := Lib.hid (HB.out.ext hb)
  replace F := Lib.hid (F.out.ext hb)
  have hrys := ho.own.rd
  clear ho hb
  have D := Lib.hid (BoxP.new (v := u1) (hrys) 26 rfl)
  obtain ⟨w5, hw5⟩ : ∃ W, W = w4.alloc (.cells #[.int .i64 u1, .slice A2 ys.length c2] 26) := ⟨_, rfl⟩
  obtain ⟨q2, hq2⟩ : ∃ q, q = w4.heap.size := ⟨_, rfl⟩
  rw [← hw5, ← hq2] at D
  have ew5 : Ext w4 w5 := by rw [hw5]; exact (Ext.refl _).alloc _
  have xF0 := F.out.c0
  have xF1 := F.out.c1
  have xFl := F.out.lt
  replace HB := Lib.hid (HB.out.ext ew5)
  replace F := Lib.hid (F.out.ext ew5)
  have Hw5 := Lib.hid hw5
  have Hq2 := Lib.hid hq2
  clear hw5 hq2 ew5
  go_wp2_with fail
  clear xF0 xF1 xFl
  rw [← Hw5.out, ← Hq2.out]
  clear hrys
  refine (show Calls Try.prog 7 #[.agg #[.int .i64 v, .slice A1 n1 c1]] _ (RetNC u1 ys.length ys k1 _) from by have hc := sKamekoDown v A1 n1 c1 xss _ F.out.rd (by omega) (by omega); rw [HO1.out] at hc; exact hc).mono ?_
  rintro e w6 ⟨A3, c3, rfl, ho, hb⟩
  replace HB := Lib.hid (HB.out.ext hb)
  replace F := Lib.hid (F.out.ext hb)
  replace D := Lib.hid (D.out.ext hb)
  have hrys := ho.own.rd
  clear ho hb
  have E := Lib.hid (BoxP.new (v := u1) (hrys) 26 rfl)
  obtain ⟨w7, hw7⟩ : ∃ W, W = w6.alloc (.cells #[.int .i64 u1, .slice A3 ys.length c3] 26) := ⟨_, rfl⟩
  obtain ⟨q3, hq3⟩ : ∃ q, q = w6.heap.size := ⟨_, rfl⟩
  rw [← hw7, ← hq3] at E
  have ew7 : Ext w6 w7 := by rw [hw7]; exact (Ext.refl _).alloc _
  have xF0 := F.out.c0
  have xF1 := F.out.c1
  have xFl := F.out.lt
  have xD0 := D.out.c0
  have xD1 := D.out.c1
  have xDl := D.out.lt
  replace HB := Lib.hid (HB.out.ext ew7)
  replace F := Lib.hid (F.out.ext ew7)
  replace D := Lib.hid (D.out.ext ew7)
  have Hw7 := Lib.hid hw7
  have Hq3 := Lib.hid hq3
  clear hw7 hq3 ew7
  go_wp2_with fail
  clear xF0 xF1 xFl xD0 xD1 xDl
  rw [← Hw7.out, ← Hq3.out]
  clear hrys
  have hnk1 : (k1 != k1) = false := by simp
  refine (poly9_any u1 u1 A2 A3 c2 c3 ys.length ys.length ys ys _ _ _ D.out.rd E.out.rd (Nat.le_refl _) (Nat.le_refl _) (by omega) (by omega) (by omega) (by omega)).mono ?_
  rintro e w8 ⟨rfl, hb⟩
  replace HB := Lib.hid (HB.out.ext hb)
  replace F := Lib.hid (F.out.ext hb)
  replace D := Lib.hid (D.out.ext hb)
  replace E := Lib.hid (E.out.ext hb)
  clear hb
  rw [show decide (u1 = u1 ∧ ys = ys) = true from by simp]
  clear E
  have xF0 := F.out.c0
  have xF1 := F.out.c1
  have xFl := F.out.lt
  have xD0 := D.out.c0
  have xD1 := D.out.c1
  have xDl := D.out.lt
  go_wp2_with fail
  clear xF0 xF1 xFl xD0 xD1 xDl
  refine (drawKamekoUp_any A n c w8 ((h.below HB.out.b).mono HB.out.b.size) hN).mono ?_
  rintro e w9 ⟨v2, A4, n4, c4, zss, rfl, ho, hn4, htzss, hb⟩
  replace HB := Lib.hid (HB.out.ext hb)
  replace F := Lib.hid (F.out.ext hb)
  replace D := Lib.hid (D.out.ext hb)
  have hrzss := ho.rd
  clear ho hb
  have P := Lib.hid (BoxP.new (v := v2) (hrzss) 26 rfl)
  obtain ⟨w10, hw10⟩ : ∃ W, W = w9.alloc (.cells #[.int .i64 v2, .slice A4 n4 c4] 26) := ⟨_, rfl⟩
  obtain ⟨q4, hq4⟩ : ∃ q, q = w9.heap.size := ⟨_, rfl⟩
  rw [← hw10, ← hq4] at P
  have ew10 : Ext w9 w10 := by rw [hw10]; exact (Ext.refl _).alloc _
  have xF0 := F.out.c0
  have xF1 := F.out.c1
  have xFl := F.out.lt
  have xD0 := D.out.c0
  have xD1 := D.out.c1
  have xDl := D.out.lt
  replace HB := Lib.hid (HB.out.ext ew10)
  replace F := Lib.hid (F.out.ext ew10)
  replace D := Lib.hid (D.out.ext ew10)
  have Hw10 := Lib.hid hw10
  have Hq4 := Lib.hid hq4
  clear hw10 hq4 ew10
  go_wp2_with fail
  clear xF0 xF1 xFl xD0 xD1 xDl
  rw [← Hw10.out, ← Hq4.out]
  clear hrzss
  obtain ⟨o, ho⟩ : ∃ o, o = kamO v2 zss := ⟨_, rfl⟩
  obtain ⟨u2, us, k2⟩ := o
  have HO2 := Lib.hid ho.symm
  clear ho
  have hy2 : us.length ≤ 2000 ∧ totalL us ≤ 8000 := by have hh := kamO_bounds v2 zss; rw [HO2.out] at hh; exact hh
  refine (show Calls Try.prog 10 #[.agg #[.int .i64 v2, .slice A4 n4 c4]] _ (RetNC u2 us.length us k2 _) from by have hc := iKamekoUp v2 A4 n4 c4 zss _ P.out.rd (by omega) (by omega); rw [HO2.out] at hc; exact hc).mono ?_
  rintro e w11 ⟨A5, c5, rfl, ho, hb⟩
  replace HB := Lib.hid (HB.out.ext hb)
  replace F := Lib.hid (F.out.ext hb)
  replace D := Lib.hid (D.out.ext hb)
  replace P := Lib.hid (P.out.ext hb)
  have hrus := ho.own.rd
  clear ho hb
  have U := Lib.hid (BoxP.new (v := u2) (hrus) 26 rfl)
  obtain ⟨w12, hw12⟩ : ∃ W, W = w11.alloc (.cells #[.int .i64 u2, .slice A5 us.length c5] 26) := ⟨_, rfl⟩
  obtain ⟨q5, hq5⟩ : ∃ q, q = w11.heap.size := ⟨_, rfl⟩
  rw [← hw12, ← hq5] at U
  have ew12 : Ext w11 w12 := by rw [hw12]; exact (Ext.refl _).alloc _
  have xF0 := F.out.c0
  have xF1 := F.out.c1
  have xFl := F.out.lt
  have xD0 := D.out.c0
  have xD1 := D.out.c1
  have xDl := D.out.lt
  have xP0 := P.out.c0
  have xP1 := P.out.c1
  have xPl := P.out.lt
  replace HB := Lib.hid (HB.out.ext ew12)
  replace F := Lib.hid (F.out.ext ew12)
  replace D := Lib.hid (D.out.ext ew12)
  replace P := Lib.hid (P.out.ext ew12)
  have Hw12 := Lib.hid hw12
  have Hq5 := Lib.hid hq5
  clear hw12 hq5 ew12
  go_wp2_with fail
  clear xF0 xF1 xFl xD0 xD1 xDl xP0 xP1 xPl
  rw [← Hw12.out, ← Hq5.out]
  clear hrus
  refine (show Calls Try.prog 11 #[.agg #[.int .i64 v2, .slice A4 n4 c4]] _ (RetNC u2 us.length us k2 _) from by have hc := sKamekoUp v2 A4 n4 c4 zss _ P.out.rd (by omega) (by omega); rw [HO2.out] at hc; exact hc).mono ?_
  rintro e w13 ⟨A6, c6, rfl, ho, hb⟩
  replace HB := Lib.hid (HB.out.ext hb)
  replace F := Lib.hid (F.out.ext hb)
  replace D := Lib.hid (D.out.ext hb)
  replace P := Lib.hid (P.out.ext hb)
  replace U := Lib.hid (U.out.ext hb)
  have hrus := ho.own.rd
  clear ho hb
  have E := Lib.hid (BoxP.new (v := u2) (hrus) 26 rfl)
  obtain ⟨w14, hw14⟩ : ∃ W, W = w13.alloc (.cells #[.int .i64 u2, .slice A6 us.length c6] 26) := ⟨_, rfl⟩
  obtain ⟨q6, hq6⟩ : ∃ q, q = w13.heap.size := ⟨_, rfl⟩
  rw [← hw14, ← hq6] at E
  have ew14 : Ext w13 w14 := by rw [hw14]; exact (Ext.refl _).alloc _
  have xF0 := F.out.c0
  have xF1 := F.out.c1
  have xFl := F.out.lt
  have xD0 := D.out.c0
  have xD1 := D.out.c1
  have xDl := D.out.lt
  have xP0 := P.out.c0
  have xP1 := P.out.c1
  have xPl := P.out.lt
  have xU0 := U.out.c0
  have xU1 := U.out.c1
  have xUl := U.out.lt
  replace HB := Lib.hid (HB.out.ext ew14)
  replace F := Lib.hid (F.out.ext ew14)
  replace D := Lib.hid (D.out.ext ew14)
  replace P := Lib.hid (P.out.ext ew14)
  replace U := Lib.hid (U.out.ext ew14)
  have Hw14 := Lib.hid hw14
  have Hq6 := Lib.hid hq6
  clear hw14 hq6 ew14
  go_wp2_with fail
  clear xF0 xF1 xFl xD0 xD1 xDl xP0 xP1 xPl xU0 xU1 xUl
  rw [← Hw14.out, ← Hq6.out]
  clear hrus
  have hnk2 : (k2 != k2) = false := by simp
  refine (poly9_any u2 u2 A5 A6 c5 c6 us.length us.length us us _ _ _ U.out.rd E.out.rd (Nat.le_refl _) (Nat.le_refl _) (by omega) (by omega) (by omega) (by omega)).mono ?_
  rintro e w15 ⟨rfl, hb⟩
  replace HB := Lib.hid (HB.out.ext hb)
  replace F := Lib.hid (F.out.ext hb)
  replace D := Lib.hid (D.out.ext hb)
  replace P := Lib.hid (P.out.ext hb)
  replace U := Lib.hid (U.out.ext hb)
  replace E := Lib.hid (E.out.ext hb)
  clear hb
  rw [show decide (u2 = u2 ∧ us = us) = true from by simp]
  clear E
  have HL4 : Hid (zss.length = n4) := Lib.hid P.out.rd.len
  clear hnk1 hnk2
  by_cases hk2 : k2 = 0
  · skip
    subst hk2
    have HKb := Lib.hid (kam_back HO2.out)
    have xF0 := F.out.c0
    have xF1 := F.out.c1
    have xFl := F.out.lt
    have xD0 := D.out.c0
    have xD1 := D.out.c1
    have xDl := D.out.lt
    have xP0 := P.out.c0
    have xP1 := P.out.c1
    have xPl := P.out.lt
    have xU0 := U.out.c0
    have xU1 := U.out.c1
    have xUl := U.out.lt
    go_wp2_with fail
    clear xF0 xF1 xFl xD0 xD1 xDl xP0 xP1 xPl xU0 xU1 xUl
    refine (show Calls Try.prog 6 #[.agg #[.int .i64 u2, .slice A5 us.length c5]] _ (RetNC v2 zss.length zss 0 _) from by have hc := iKamekoDown u2 A5 us.length c5 us _ U.out.rd (by omega) (by omega); rw [HKb.out] at hc; exact hc).mono ?_
    rintro e w16 ⟨A7, c7, rfl, ho, hb⟩
    replace HB := Lib.hid (HB.out.ext hb)
    replace F := Lib.hid (F.out.ext hb)
    replace D := Lib.hid (D.out.ext hb)
    replace P := Lib.hid (P.out.ext hb)
    replace U := Lib.hid (U.out.ext hb)
    have hrzss := ho.own.rd
    clear ho hb
    have B := Lib.hid (BoxP.new (v := v2) (hrzss) 26 rfl)
    obtain ⟨w17, hw17⟩ : ∃ W, W = w16.alloc (.cells #[.int .i64 v2, .slice A7 zss.length c7] 26) := ⟨_, rfl⟩
    obtain ⟨q7, hq7⟩ : ∃ q, q = w16.heap.size := ⟨_, rfl⟩
    rw [← hw17, ← hq7] at B
    have ew17 : Ext w16 w17 := by rw [hw17]; exact (Ext.refl _).alloc _
    have xF0 := F.out.c0
    have xF1 := F.out.c1
    have xFl := F.out.lt
    have xD0 := D.out.c0
    have xD1 := D.out.c1
    have xDl := D.out.lt
    have xP0 := P.out.c0
    have xP1 := P.out.c1
    have xPl := P.out.lt
    have xU0 := U.out.c0
    have xU1 := U.out.c1
    have xUl := U.out.lt
    replace HB := Lib.hid (HB.out.ext ew17)
    replace F := Lib.hid (F.out.ext ew17)
    replace D := Lib.hid (D.out.ext ew17)
    replace P := Lib.hid (P.out.ext ew17)
    replace U := Lib.hid (U.out.ext ew17)
    have Hw17 := Lib.hid hw17
    have Hq7 := Lib.hid hq7
    clear hw17 hq7 ew17
    go_wp2_with fail
    clear xF0 xF1 xFl xD0 xD1 xDl xP0 xP1 xPl xU0 xU1 xUl
    rw [← Hw17.out, ← Hq7.out]
    clear hrzss
    have hzl : zss.length ≤ 2000 := by have := HL4.out; omega
    refine (poly9_any v2 v2 A7 A4 c7 c4 zss.length n4 zss zss _ _ _ B.out.rd P.out.rd (Nat.le_refl _) (Nat.le_refl _) (by omega) (by omega) (by omega) (by omega)).mono ?_
    rintro e w18 ⟨rfl, hb⟩
    replace HB := Lib.hid (HB.out.ext hb)
    replace F := Lib.hid (F.out.ext hb)
    replace D := Lib.hid (D.out.ext hb)
    replace P := Lib.hid (P.out.ext hb)
    replace U := Lib.hid (U.out.ext hb)
    replace B := Lib.hid (B.out.ext hb)
    clear hb
    rw [show decide (v2 = v2 ∧ zss = zss) = true from by simp]
    clear B
    have xF0 := F.out.c0
    have xF1 := F.out.c1
    have xFl := F.out.lt
    have xD0 := D.out.c0
    have xD1 := D.out.c1
    have xDl := D.out.lt
    have xP0 := P.out.c0
    have xP1 := P.out.c1
    have xPl := P.out.lt
    have xU0 := U.out.c0
    have xU1 := U.out.c1
    have xUl := U.out.lt
    go_wp2_with fail
    clear xF0 xF1 xFl xD0 xD1 xDl xP0 xP1 xPl xU0 xU1 xUl
    refine (drawWeightsOf_any A n c w18 ((h.below HB.out.b).mono HB.out.b.size) hN).mono ?_
    rintro e w19 ⟨A8, n8, c8, xs, rfl, ho, hn8, hx8, hb⟩
    replace HB := Lib.hid (HB.out.ext hb)
    replace F := Lib.hid (F.out.ext hb)
    replace D := Lib.hid (D.out.ext hb)
    replace P := Lib.hid (P.out.ext hb)
    replace U := Lib.hid (U.out.ext hb)
    have X := Lib.hid (IntsP.mk ho.rd)
    clear ho hb
    have xF0 := F.out.c0
    have xF1 := F.out.c1
    have xFl := F.out.lt
    have xD0 := D.out.c0
    have xD1 := D.out.c1
    have xDl := D.out.lt
    have xP0 := P.out.c0
    have xP1 := P.out.c1
    have xPl := P.out.lt
    have xU0 := U.out.c0
    have xU1 := U.out.c1
    have xUl := U.out.lt
    go_wp2_with fail
    clear xF0 xF1 xFl xD0 xD1 xDl xP0 xP1 xPl xU0 xU1 xUl
    obtain ⟨o, ho⟩ : ∃ o, o = wtO xs := ⟨_, rfl⟩
    obtain ⟨ws, k4⟩ := o
    have HO4 := Lib.hid ho.symm
    clear ho
    have hw8 := wt_each HO4.out
    have HW8 := Lib.hid hw8.2
    replace hw8 := hw8.1
    refine (show Calls Try.prog 13 #[.slice A8 n8 c8] _ (fun e w2 => ∃ A c, e = .returned (.tuple #[.slice A ws.length c, .int .i64 k4]) ∧ RdS w2 w2.heap.size A ws.length c ws ∧ Below w19.heap.size w19 w2) from by have hc := iWeightsOf A8 n8 c8 xs _ X.out.rd (by omega); unfold RetW6 at hc; rw [HO4.out] at hc; exact hc).mono ?_
    rintro e w20 ⟨AY, cY, rfl, hr, hb⟩
    replace HB := Lib.hid (HB.out.ext hb)
    replace F := Lib.hid (F.out.ext hb)
    replace D := Lib.hid (D.out.ext hb)
    replace P := Lib.hid (P.out.ext hb)
    replace U := Lib.hid (U.out.ext hb)
    replace X := Lib.hid (X.out.ext hb)
    have Y := Lib.hid (IntsP.mk hr)
    clear hr hb
    have xF0 := F.out.c0
    have xF1 := F.out.c1
    have xFl := F.out.lt
    have xD0 := D.out.c0
    have xD1 := D.out.c1
    have xDl := D.out.lt
    have xP0 := P.out.c0
    have xP1 := P.out.c1
    have xPl := P.out.lt
    have xU0 := U.out.c0
    have xU1 := U.out.c1
    have xUl := U.out.lt
    go_wp2_with fail
    clear xF0 xF1 xFl xD0 xD1 xDl xP0 xP1 xPl xU0 xU1 xUl
    refine (show Calls Try.prog 14 #[.slice A8 n8 c8] _ (fun e w2 => ∃ A c, e = .returned (.tuple #[.slice A ws.length c, .int .i64 k4]) ∧ RdS w2 w2.heap.size A ws.length c ws ∧ Below w20.heap.size w20 w2) from by have hc := sWeightsOf A8 n8 c8 xs _ X.out.rd (by omega); unfold RetW6 at hc; rw [HO4.out] at hc; exact hc).mono ?_
    rintro e w21 ⟨AZ, cZ, rfl, hr, hb⟩
    replace HB := Lib.hid (HB.out.ext hb)
    replace F := Lib.hid (F.out.ext hb)
    replace D := Lib.hid (D.out.ext hb)
    replace P := Lib.hid (P.out.ext hb)
    replace U := Lib.hid (U.out.ext hb)
    replace X := Lib.hid (X.out.ext hb)
    replace Y := Lib.hid (Y.out.ext hb)
    have Z := Lib.hid (IntsP.mk hr)
    clear hr hb
    have hnk4 : (k4 != k4) = false := by simp
    have xF0 := F.out.c0
    have xF1 := F.out.c1
    have xFl := F.out.lt
    have xD0 := D.out.c0
    have xD1 := D.out.c1
    have xDl := D.out.lt
    have xP0 := P.out.c0
    have xP1 := P.out.c1
    have xPl := P.out.lt
    have xU0 := U.out.c0
    have xU1 := U.out.c1
    have xUl := U.out.lt
    go_wp2_with fail
    clear xF0 xF1 xFl xD0 xD1 xDl xP0 xP1 xPl xU0 xU1 xUl
    refine (likeI_any AY AZ cY cZ ws.length ws.length ws ws _ _ _ Y.out.rd Z.out.rd (by omega) (by omega)).mono ?_
    rintro e w22 ⟨rfl, hq⟩
    rw [decide_eq_true (rfl : ws = ws)]
    have hb : Ext w21 w22 := by obtain ⟨q, rfl⟩ := hq; exact below_drewN (Ext.refl _) q
    replace HB := Lib.hid (HB.out.ext hb)
    replace F := Lib.hid (F.out.ext hb)
    replace D := Lib.hid (D.out.ext hb)
    replace P := Lib.hid (P.out.ext hb)
    replace U := Lib.hid (U.out.ext hb)
    replace X := Lib.hid (X.out.ext hb)
    replace Y := Lib.hid (Y.out.ext hb)
    replace Z := Lib.hid (Z.out.ext hb)
    clear hb hq Z hnk4
    by_cases hk4 : k4 = 0
    · skip
      subst hk4
      have HSw := Lib.hid (wt_sum HO4.out)
      have HFw := Lib.hid (wt_inv HO4.out).1
      have xF0 := F.out.c0
      have xF1 := F.out.c1
      have xFl := F.out.lt
      have xD0 := D.out.c0
      have xD1 := D.out.c1
      have xDl := D.out.lt
      have xP0 := P.out.c0
      have xP1 := P.out.c1
      have xPl := P.out.lt
      have xU0 := U.out.c0
      have xU1 := U.out.c1
      have xUl := U.out.lt
      go_wp2_with fail
      clear xF0 xF1 xFl xD0 xD1 xDl xP0 xP1 xPl xU0 xU1 xUl
      go_loop [20, 21, 22] (fun t s i => ∃ (k p : Nat) (u : Int), k ≤ ws.length ∧ i = .int .i64 k ∧ s = .int .i64 p ∧ t = .int .i64 u ∧ 1 ≤ p ∧ p ≤ 64 ∧ Hid (p = 2 ^ k) ∧ 0 ≤ u ∧ u ≤ 256 * k ∧ Hid (u = sc (ws.take k) 1)) (fun _ _ i => ws.length - (intOf i).toNat)
      case atStart => exact ⟨0, 1, 0, Nat.zero_le _, rfl, rfl, rfl, by omega, by omega, Lib.hid rfl, by omega, by omega, Lib.hid rfl⟩
      case round =>
        obtain ⟨k, p, u, hk, rfl, rfl, rfl, hp1, hp64, HPw, hu0, hu1, HU⟩ := hrel
        by_cases hlt : k < ws.length
        · obtain ⟨ad, z, rfl, _, hz, hcz⟩ := Y.out.rd.at_ hlt
          have hz4 := HW8.out z (mem_of hz)
          have HZ := Lib.hid (sc_take hz.out)
          have hp32 : p ≤ 32 := by
            have := Nat.pow_le_pow_right (n := 2) (by decide) (show k ≤ 5 by omega)
            have := HPw.out
            omega
          have hm0 : 0 ≤ (p : Int) * z := Int.mul_nonneg (by omega) hz4.1
          have hm1 : (p : Int) * z ≤ 32 * 4 := Int.le_trans (Int.mul_le_mul_of_nonneg_right (by omega) hz4.1) (Int.mul_le_mul_of_nonneg_left hz4.2 (by decide))
          obtain ⟨m, hm⟩ : ∃ m, (p : Int) * z = m := ⟨_, rfl⟩
          rw [hm] at hm0 hm1
          have HMM := Lib.hid (show u + m = sc (ws.take (k + 1)) 1 by
            rw [HZ.out, ← hm, HU.out, HPw.out]; push_cast; rfl)
          have HPP := Lib.hid (show p * 2 = 2 ^ (k + 1) by rw [HPw.out, Nat.pow_succ])
          clear hz
          go_wp2_with fail
          go_round
          case rel => exact ⟨k + 1, p * 2, u + m, by omega, by go_num, by go_num, by go_num, by omega, by omega, HPP, by omega, by push_cast; omega, HMM⟩
          case measure => simp [intOf]; omega
        · obtain ⟨kw, hkw⟩ : ∃ kw, kw = ws.length := ⟨_, rfl⟩
          have hkk : k = ws.length := by omega
          have HUU : Hid (u = xs.sum) := Lib.hid (by rw [HU.out, hkk, List.take_length]; exact HSw.out)
          clear hkw kw
          have xF0 := F.out.c0
          have xF1 := F.out.c1
          have xFl := F.out.lt
          have xD0 := D.out.c0
          have xD1 := D.out.c1
          have xDl := D.out.lt
          have xP0 := P.out.c0
          have xP1 := P.out.c1
          have xPl := P.out.lt
          have xU0 := U.out.c0
          have xU1 := U.out.c1
          have xUl := U.out.lt
          go_wp2_with fail
          clear xF0 xF1 xFl xD0 xD1 xDl xP0 xP1 xPl xU0 xU1 xUl
          refine (sumLaw_any A8 n8 c8 xs _ X.out.rd (by omega) (fun z hz => by have := hx8 z hz; omega)).mono ?_
          rintro e w23 ⟨rfl, hw9⟩
          obtain rfl := hw9.symm
          rw [← HUU.out]
          have hnu : (u != u) = false := by simp
          by_cases hlast : k1 = 0 ∧ 0 < n1
          · skip
            obtain ⟨hk1, hn10⟩ := hlast
            subst hk1
            obtain ⟨hpb, hu1, hys⟩ := kdm_inv HO1.out
            subst hu1
            subst hys
            obtain ⟨b1, hb1⟩ : ∃ b, b = hitB u1 xss := ⟨_, rfl⟩
            obtain ⟨e1, he1⟩ : ∃ e, e = (nrmO u1 xss).2.2 := ⟨_, rfl⟩
            have HB1 := Lib.hid hb1
            have HE1 := Lib.hid he1
            clear hb1 he1
            have xF0 := F.out.c0
            have xF1 := F.out.c1
            have xFl := F.out.lt
            have xD0 := D.out.c0
            have xD1 := D.out.c1
            have xDl := D.out.lt
            have xP0 := P.out.c0
            have xP1 := P.out.c1
            have xPl := P.out.lt
            have xU0 := U.out.c0
            have xU1 := U.out.c1
            have xUl := U.out.lt
            go_wp2_with fail
            clear xF0 xF1 xFl xD0 xD1 xDl xP0 xP1 xPl xU0 xU1 xUl
            refine (iIsHit u1 A1 n1 c1 xss _ F.out.rd (by omega) (by omega)).mono ?_
            rintro e w24 ⟨rfl, hb⟩
            replace HB := Lib.hid (HB.out.ext hb)
            replace F := Lib.hid (F.out.ext hb)
            replace D := Lib.hid (D.out.ext hb)
            replace P := Lib.hid (P.out.ext hb)
            replace U := Lib.hid (U.out.ext hb)
            replace X := Lib.hid (X.out.ext hb)
            replace Y := Lib.hid (Y.out.ext hb)
            clear hb
            rw [← HB1.out, ← HE1.out]
            by_cases hyes : b1 = true
            · skip
              subst hyes
              have he0 : e1 = 0 := by rw [HE1.out]; exact hit_code HB1.out.symm
              subst he0
              have HB2 := Lib.hid (hit_down hpb HB1.out.symm)
              have HE2 := Lib.hid (hit_code HB2.out)
              have xF0 := F.out.c0
              have xF1 := F.out.c1
              have xFl := F.out.lt
              have xD0 := D.out.c0
              have xD1 := D.out.c1
              have xDl := D.out.lt
              have xP0 := P.out.c0
              have xP1 := P.out.c1
              have xPl := P.out.lt
              have xU0 := U.out.c0
              have xU1 := U.out.c1
              have xUl := U.out.lt
              go_wp2_with fail
              clear xF0 xF1 xFl xD0 xD1 xDl xP0 xP1 xPl xU0 xU1 xUl
              refine (iIsHit u1 A2 (kd xss).length c2 (kd xss) _ D.out.rd (by omega) (by omega)).mono ?_
              rintro e w25 ⟨rfl, hb⟩
              replace HB := Lib.hid (HB.out.ext hb)
              replace F := Lib.hid (F.out.ext hb)
              replace D := Lib.hid (D.out.ext hb)
              replace P := Lib.hid (P.out.ext hb)
              replace U := Lib.hid (U.out.ext hb)
              replace X := Lib.hid (X.out.ext hb)
              replace Y := Lib.hid (Y.out.ext hb)
              clear hb
              rw [show hitB u1 (kd xss) = true from HB2.out, HE2.out]
              have xF0 := F.out.c0
              have xF1 := F.out.c1
              have xFl := F.out.lt
              have xD0 := D.out.c0
              have xD1 := D.out.c1
              have xDl := D.out.lt
              have xP0 := P.out.c0
              have xP1 := P.out.c1
              have xPl := P.out.lt
              have xU0 := U.out.c0
              have xU1 := U.out.c1
              have xUl := U.out.lt
              go_wp2_with fail
              clear xF0 xF1 xFl xD0 xD1 xDl xP0 xP1 xPl xU0 xU1 xUl
              rw [HR.out]
              exact ⟨rfl, HB.out.b⟩
            · skip
              obtain rfl : b1 = false := by simpa using hyes
              by_cases he0 : e1 = 0
              · skip
                subst he0
                have xF0 := F.out.c0
                have xF1 := F.out.c1
                have xFl := F.out.lt
                have xD0 := D.out.c0
                have xD1 := D.out.c1
                have xDl := D.out.lt
                have xP0 := P.out.c0
                have xP1 := P.out.c1
                have xPl := P.out.lt
                have xU0 := U.out.c0
                have xU1 := U.out.c1
                have xUl := U.out.lt
                go_wp2_with fail
                clear xF0 xF1 xFl xD0 xD1 xDl xP0 xP1 xPl xU0 xU1 xUl
                rw [HR.out]
                exact ⟨rfl, HB.out.b⟩
              · skip
                have he2 : (e1 != 0) = true := by simpa using he0
                have he3 : (e1 == 0) = false := by simpa using he0
                have xF0 := F.out.c0
                have xF1 := F.out.c1
                have xFl := F.out.lt
                have xD0 := D.out.c0
                have xD1 := D.out.c1
                have xDl := D.out.lt
                have xP0 := P.out.c0
                have xP1 := P.out.c1
                have xPl := P.out.lt
                have xU0 := U.out.c0
                have xU1 := U.out.c1
                have xUl := U.out.lt
                go_wp2_with fail
                clear xF0 xF1 xFl xD0 xD1 xDl xP0 xP1 xPl xU0 xU1 xUl
                rw [HR.out]
                exact ⟨rfl, HB.out.b⟩
          · skip
            by_cases hk1 : k1 = 0
            · skip
              subst hk1
              obtain rfl : n1 = 0 := by omega
              clear hlast
              have xF0 := F.out.c0
              have xF1 := F.out.c1
              have xFl := F.out.lt
              have xD0 := D.out.c0
              have xD1 := D.out.c1
              have xDl := D.out.lt
              have xP0 := P.out.c0
              have xP1 := P.out.c1
              have xPl := P.out.lt
              have xU0 := U.out.c0
              have xU1 := U.out.c1
              have xUl := U.out.lt
              go_wp2_with fail
              clear xF0 xF1 xFl xD0 xD1 xDl xP0 xP1 xPl xU0 xU1 xUl
              rw [HR.out]
              exact ⟨rfl, HB.out.b⟩
            · skip
              have hk2 : (k1 != 0) = true := by simpa using hk1
              clear hlast
              have xF0 := F.out.c0
              have xF1 := F.out.c1
              have xFl := F.out.lt
              have xD0 := D.out.c0
              have xD1 := D.out.c1
              have xDl := D.out.lt
              have xP0 := P.out.c0
              have xP1 := P.out.c1
              have xPl := P.out.lt
              have xU0 := U.out.c0
              have xU1 := U.out.c1
              have xUl := U.out.lt
              go_wp2_with fail
              clear xF0 xF1 xFl xD0 xD1 xDl xP0 xP1 xPl xU0 xU1 xUl
              rw [HR.out]
              exact ⟨rfl, HB.out.b⟩
    · skip
      have hk5 : (k4 == 0) = false := by simpa using hk4
      by_cases hlast : k1 = 0 ∧ 0 < n1
      · skip
        obtain ⟨hk1, hn10⟩ := hlast
        subst hk1
        obtain ⟨hpb, hu1, hys⟩ := kdm_inv HO1.out
        subst hu1
        subst hys
        obtain ⟨b1, hb1⟩ : ∃ b, b = hitB u1 xss := ⟨_, rfl⟩
        obtain ⟨e1, he1⟩ : ∃ e, e = (nrmO u1 xss).2.2 := ⟨_, rfl⟩
        have HB1 := Lib.hid hb1
        have HE1 := Lib.hid he1
        clear hb1 he1
        have xF0 := F.out.c0
        have xF1 := F.out.c1
        have xFl := F.out.lt
        have xD0 := D.out.c0
        have xD1 := D.out.c1
        have xDl := D.out.lt
        have xP0 := P.out.c0
        have xP1 := P.out.c1
        have xPl := P.out.lt
        have xU0 := U.out.c0
        have xU1 := U.out.c1
        have xUl := U.out.lt
        go_wp2_with fail
        clear xF0 xF1 xFl xD0 xD1 xDl xP0 xP1 xPl xU0 xU1 xUl
        refine (iIsHit u1 A1 n1 c1 xss _ F.out.rd (by omega) (by omega)).mono ?_
        rintro e w23 ⟨rfl, hb⟩
        replace HB := Lib.hid (HB.out.ext hb)
        replace F := Lib.hid (F.out.ext hb)
        replace D := Lib.hid (D.out.ext hb)
        replace P := Lib.hid (P.out.ext hb)
        replace U := Lib.hid (U.out.ext hb)
        replace X := Lib.hid (X.out.ext hb)
        replace Y := Lib.hid (Y.out.ext hb)
        clear hb
        rw [← HB1.out, ← HE1.out]
        by_cases hyes : b1 = true
        · skip
          subst hyes
          have he0 : e1 = 0 := by rw [HE1.out]; exact hit_code HB1.out.symm
          subst he0
          have HB2 := Lib.hid (hit_down hpb HB1.out.symm)
          have HE2 := Lib.hid (hit_code HB2.out)
          have xF0 := F.out.c0
          have xF1 := F.out.c1
          have xFl := F.out.lt
          have xD0 := D.out.c0
          have xD1 := D.out.c1
          have xDl := D.out.lt
          have xP0 := P.out.c0
          have xP1 := P.out.c1
          have xPl := P.out.lt
          have xU0 := U.out.c0
          have xU1 := U.out.c1
          have xUl := U.out.lt
          go_wp2_with fail
          clear xF0 xF1 xFl xD0 xD1 xDl xP0 xP1 xPl xU0 xU1 xUl
          refine (iIsHit u1 A2 (kd xss).length c2 (kd xss) _ D.out.rd (by omega) (by omega)).mono ?_
          rintro e w24 ⟨rfl, hb⟩
          replace HB := Lib.hid (HB.out.ext hb)
          replace F := Lib.hid (F.out.ext hb)
          replace D := Lib.hid (D.out.ext hb)
          replace P := Lib.hid (P.out.ext hb)
          replace U := Lib.hid (U.out.ext hb)
          replace X := Lib.hid (X.out.ext hb)
          replace Y := Lib.hid (Y.out.ext hb)
          clear hb
          rw [show hitB u1 (kd xss) = true from HB2.out, HE2.out]
          have xF0 := F.out.c0
          have xF1 := F.out.c1
          have xFl := F.out.lt
          have xD0 := D.out.c0
          have xD1 := D.out.c1
          have xDl := D.out.lt
          have xP0 := P.out.c0
          have xP1 := P.out.c1
          have xPl := P.out.lt
          have xU0 := U.out.c0
          have xU1 := U.out.c1
          have xUl := U.out.lt
          go_wp2_with fail
          clear xF0 xF1 xFl xD0 xD1 xDl xP0 xP1 xPl xU0 xU1 xUl
          rw [HR.out]
          exact ⟨rfl, HB.out.b⟩
        · skip
          obtain rfl : b1 = false := by simpa using hyes
          by_cases he0 : e1 = 0
          · skip
            subst he0
            have xF0 := F.out.c0
            have xF1 := F.out.c1
            have xFl := F.out.lt
            have xD0 := D.out.c0
            have xD1 := D.out.c1
            have xDl := D.out.lt
            have xP0 := P.out.c0
            have xP1 := P.out.c1
            have xPl := P.out.lt
            have xU0 := U.out.c0
            have xU1 := U.out.c1
            have xUl := U.out.lt
            go_wp2_with fail
            clear xF0 xF1 xFl xD0 xD1 xDl xP0 xP1 xPl xU0 xU1 xUl
            rw [HR.out]
            exact ⟨rfl, HB.out.b⟩
          · skip
            have he2 : (e1 != 0) = true := by simpa using he0
            have he3 : (e1 == 0) = false := by simpa using he0
            have xF0 := F.out.c0
            have xF1 := F.out.c1
            have xFl := F.out.lt
            have xD0 := D.out.c0
            have xD1 := D.out.c1
            have xDl := D.out.lt
            have xP0 := P.out.c0
            have xP1 := P.out.c1
            have xPl := P.out.lt
            have xU0 := U.out.c0
            have xU1 := U.out.c1
            have xUl := U.out.lt
            go_wp2_with fail
            clear xF0 xF1 xFl xD0 xD1 xDl xP0 xP1 xPl xU0 xU1 xUl
            rw [HR.out]
            exact ⟨rfl, HB.out.b⟩
      · skip
        by_cases hk1 : k1 = 0
        · skip
          subst hk1
          obtain rfl : n1 = 0 := by omega
          clear hlast
          have xF0 := F.out.c0
          have xF1 := F.out.c1
          have xFl := F.out.lt
          have xD0 := D.out.c0
          have xD1 := D.out.c1
          have xDl := D.out.lt
          have xP0 := P.out.c0
          have xP1 := P.out.c1
          have xPl := P.out.lt
          have xU0 := U.out.c0
          have xU1 := U.out.c1
          have xUl := U.out.lt
          go_wp2_with fail
          clear xF0 xF1 xFl xD0 xD1 xDl xP0 xP1 xPl xU0 xU1 xUl
          rw [HR.out]
          exact ⟨rfl, HB.out.b⟩
        · skip
          have hk2 : (k1 != 0) = true := by simpa using hk1
          clear hlast
          have xF0 := F.out.c0
          have xF1 := F.out.c1
          have xFl := F.out.lt
          have xD0 := D.out.c0
          have xD1 := D.out.c1
          have xDl := D.out.lt
          have xP0 := P.out.c0
          have xP1 := P.out.c1
          have xPl := P.out.lt
          have xU0 := U.out.c0
          have xU1 := U.out.c1
          have xUl := U.out.lt
          go_wp2_with fail
          clear xF0 xF1 xFl xD0 xD1 xDl xP0 xP1 xPl xU0 xU1 xUl
          rw [HR.out]
          exact ⟨rfl, HB.out.b⟩
  · skip
    have hk5 : (k2 == 0) = false := by simpa using hk2
    have xF0 := F.out.c0
    have xF1 := F.out.c1
    have xFl := F.out.lt
    have xD0 := D.out.c0
    have xD1 := D.out.c1
    have xDl := D.out.lt
    have xP0 := P.out.c0
    have xP1 := P.out.c1
    have xPl := P.out.lt
    have xU0 := U.out.c0
    have xU1 := U.out.c1
    have xUl := U.out.lt
    go_wp2_with fail
    clear xF0 xF1 xFl xD0 xD1 xDl xP0 xP1 xPl xU0 xU1 xUl
    clear hk5
    refine (drawWeightsOf_any A n c w15 ((h.below HB.out.b).mono HB.out.b.size) hN).mono ?_
    rintro e w16 ⟨A8, n8, c8, xs, rfl, ho, hn8, hx8, hb⟩
    replace HB := Lib.hid (HB.out.ext hb)
    replace F := Lib.hid (F.out.ext hb)
    replace D := Lib.hid (D.out.ext hb)
    replace P := Lib.hid (P.out.ext hb)
    replace U := Lib.hid (U.out.ext hb)
    have X := Lib.hid (IntsP.mk ho.rd)
    clear ho hb
    have xF0 := F.out.c0
    have xF1 := F.out.c1
    have xFl := F.out.lt
    have xD0 := D.out.c0
    have xD1 := D.out.c1
    have xDl := D.out.lt
    have xP0 := P.out.c0
    have xP1 := P.out.c1
    have xPl := P.out.lt
    have xU0 := U.out.c0
    have xU1 := U.out.c1
    have xUl := U.out.lt
    go_wp2_with fail
    clear xF0 xF1 xFl xD0 xD1 xDl xP0 xP1 xPl xU0 xU1 xUl
    obtain ⟨o, ho⟩ : ∃ o, o = wtO xs := ⟨_, rfl⟩
    obtain ⟨ws, k4⟩ := o
    have HO4 := Lib.hid ho.symm
    clear ho
    have hw8 := wt_each HO4.out
    have HW8 := Lib.hid hw8.2
    replace hw8 := hw8.1
    refine (show Calls Try.prog 13 #[.slice A8 n8 c8] _ (fun e w2 => ∃ A c, e = .returned (.tuple #[.slice A ws.length c, .int .i64 k4]) ∧ RdS w2 w2.heap.size A ws.length c ws ∧ Below w16.heap.size w16 w2) from by have hc := iWeightsOf A8 n8 c8 xs _ X.out.rd (by omega); unfold RetW6 at hc; rw [HO4.out] at hc; exact hc).mono ?_
    rintro e w17 ⟨AY, cY, rfl, hr, hb⟩
    replace HB := Lib.hid (HB.out.ext hb)
    replace F := Lib.hid (F.out.ext hb)
    replace D := Lib.hid (D.out.ext hb)
    replace P := Lib.hid (P.out.ext hb)
    replace U := Lib.hid (U.out.ext hb)
    replace X := Lib.hid (X.out.ext hb)
    have Y := Lib.hid (IntsP.mk hr)
    clear hr hb
    have xF0 := F.out.c0
    have xF1 := F.out.c1
    have xFl := F.out.lt
    have xD0 := D.out.c0
    have xD1 := D.out.c1
    have xDl := D.out.lt
    have xP0 := P.out.c0
    have xP1 := P.out.c1
    have xPl := P.out.lt
    have xU0 := U.out.c0
    have xU1 := U.out.c1
    have xUl := U.out.lt
    go_wp2_with fail
    clear xF0 xF1 xFl xD0 xD1 xDl xP0 xP1 xPl xU0 xU1 xUl
    refine (show Calls Try.prog 14 #[.slice A8 n8 c8] _ (fun e w2 => ∃ A c, e = .returned (.tuple #[.slice A ws.length c, .int .i64 k4]) ∧ RdS w2 w2.heap.size A ws.length c ws ∧ Below w17.heap.size w17 w2) from by have hc := sWeightsOf A8 n8 c8 xs _ X.out.rd (by omega); unfold RetW6 at hc; rw [HO4.out] at hc; exact hc).mono ?_
    rintro e w18 ⟨AZ, cZ, rfl, hr, hb⟩
    replace HB := Lib.hid (HB.out.ext hb)
    replace F := Lib.hid (F.out.ext hb)
    replace D := Lib.hid (D.out.ext hb)
    replace P := Lib.hid (P.out.ext hb)
    replace U := Lib.hid (U.out.ext hb)
    replace X := Lib.hid (X.out.ext hb)
    replace Y := Lib.hid (Y.out.ext hb)
    have Z := Lib.hid (IntsP.mk hr)
    clear hr hb
    have hnk4 : (k4 != k4) = false := by simp
    have xF0 := F.out.c0
    have xF1 := F.out.c1
    have xFl := F.out.lt
    have xD0 := D.out.c0
    have xD1 := D.out.c1
    have xDl := D.out.lt
    have xP0 := P.out.c0
    have xP1 := P.out.c1
    have xPl := P.out.lt
    have xU0 := U.out.c0
    have xU1 := U.out.c1
    have xUl := U.out.lt
    go_wp2_with fail
    clear xF0 xF1 xFl xD0 xD1 xDl xP0 xP1 xPl xU0 xU1 xUl
    refine (likeI_any AY AZ cY cZ ws.length ws.length ws ws _ _ _ Y.out.rd Z.out.rd (by omega) (by omega)).mono ?_
    rintro e w19 ⟨rfl, hq⟩
    rw [decide_eq_true (rfl : ws = ws)]
    have hb : Ext w18 w19 := by obtain ⟨q, rfl⟩ := hq; exact below_drewN (Ext.refl _) q
    replace HB := Lib.hid (HB.out.ext hb)
    replace F := Lib.hid (F.out.ext hb)
    replace D := Lib.hid (D.out.ext hb)
    replace P := Lib.hid (P.out.ext hb)
    replace U := Lib.hid (U.out.ext hb)
    replace X := Lib.hid (X.out.ext hb)
    replace Y := Lib.hid (Y.out.ext hb)
    replace Z := Lib.hid (Z.out.ext hb)
    clear hb hq Z hnk4
    by_cases hk4 : k4 = 0
    · skip
      subst hk4
      have HSw := Lib.hid (wt_sum HO4.out)
      have HFw := Lib.hid (wt_inv HO4.out).1
      have xF0 := F.out.c0
      have xF1 := F.out.c1
      have xFl := F.out.lt
      have xD0 := D.out.c0
      have xD1 := D.out.c1
      have xDl := D.out.lt
      have xP0 := P.out.c0
      have xP1 := P.out.c1
      have xPl := P.out.lt
      have xU0 := U.out.c0
      have xU1 := U.out.c1
      have xUl := U.out.lt
      go_wp2_with fail
      clear xF0 xF1 xFl xD0 xD1 xDl xP0 xP1 xPl xU0 xU1 xUl
      go_loop [20, 21, 22] (fun t s i => ∃ (k p : Nat) (u : Int), k ≤ ws.length ∧ i = .int .i64 k ∧ s = .int .i64 p ∧ t = .int .i64 u ∧ 1 ≤ p ∧ p ≤ 64 ∧ Hid (p = 2 ^ k) ∧ 0 ≤ u ∧ u ≤ 256 * k ∧ Hid (u = sc (ws.take k) 1)) (fun _ _ i => ws.length - (intOf i).toNat)
      case atStart => exact ⟨0, 1, 0, Nat.zero_le _, rfl, rfl, rfl, by omega, by omega, Lib.hid rfl, by omega, by omega, Lib.hid rfl⟩
      case round =>
        obtain ⟨k, p, u, hk, rfl, rfl, rfl, hp1, hp64, HPw, hu0, hu1, HU⟩ := hrel
        by_cases hlt : k < ws.length
        · obtain ⟨ad, z, rfl, _, hz, hcz⟩ := Y.out.rd.at_ hlt
          have hz4 := HW8.out z (mem_of hz)
          have HZ := Lib.hid (sc_take hz.out)
          have hp32 : p ≤ 32 := by
            have := Nat.pow_le_pow_right (n := 2) (by decide) (show k ≤ 5 by omega)
            have := HPw.out
            omega
          have hm0 : 0 ≤ (p : Int) * z := Int.mul_nonneg (by omega) hz4.1
          have hm1 : (p : Int) * z ≤ 32 * 4 := Int.le_trans (Int.mul_le_mul_of_nonneg_right (by omega) hz4.1) (Int.mul_le_mul_of_nonneg_left hz4.2 (by decide))
          obtain ⟨m, hm⟩ : ∃ m, (p : Int) * z = m := ⟨_, rfl⟩
          rw [hm] at hm0 hm1
          have HMM := Lib.hid (show u + m = sc (ws.take (k + 1)) 1 by
            rw [HZ.out, ← hm, HU.out, HPw.out]; push_cast; rfl)
          have HPP := Lib.hid (show p * 2 = 2 ^ (k + 1) by rw [HPw.out, Nat.pow_succ])
          clear hz
          go_wp2_with fail
          go_round
          case rel => exact ⟨k + 1, p * 2, u + m, by omega, by go_num, by go_num, by go_num, by omega, by omega, HPP, by omega, by push_cast; omega, HMM⟩
          case measure => simp [intOf]; omega
        · obtain ⟨kw, hkw⟩ : ∃ kw, kw = ws.length := ⟨_, rfl⟩
          have hkk : k = ws.length := by omega
          have HUU : Hid (u = xs.sum) := Lib.hid (by rw [HU.out, hkk, List.take_length]; exact HSw.out)
          clear hkw kw
          have xF0 := F.out.c0
          have xF1 := F.out.c1
          have xFl := F.out.lt
          have xD0 := D.out.c0
          have xD1 := D.out.c1
          have xDl := D.out.lt
          have xP0 := P.out.c0
          have xP1 := P.out.c1
          have xPl := P.out.lt
          have xU0 := U.out.c0
          have xU1 := U.out.c1
          have xUl := U.out.lt
          go_wp2_with fail
          clear xF0 xF1 xFl xD0 xD1 xDl xP0 xP1 xPl xU0 xU1 xUl
          refine (sumLaw_any A8 n8 c8 xs _ X.out.rd (by omega) (fun z hz => by have := hx8 z hz; omega)).mono ?_
          rintro e w20 ⟨rfl, hw9⟩
          obtain rfl := hw9.symm
          rw [← HUU.out]
          have hnu : (u != u) = false := by simp
          by_cases hlast : k1 = 0 ∧ 0 < n1
          · skip
            obtain ⟨hk1, hn10⟩ := hlast
            subst hk1
            obtain ⟨hpb, hu1, hys⟩ := kdm_inv HO1.out
            subst hu1
            subst hys
            obtain ⟨b1, hb1⟩ : ∃ b, b = hitB u1 xss := ⟨_, rfl⟩
            obtain ⟨e1, he1⟩ : ∃ e, e = (nrmO u1 xss).2.2 := ⟨_, rfl⟩
            have HB1 := Lib.hid hb1
            have HE1 := Lib.hid he1
            clear hb1 he1
            have xF0 := F.out.c0
            have xF1 := F.out.c1
            have xFl := F.out.lt
            have xD0 := D.out.c0
            have xD1 := D.out.c1
            have xDl := D.out.lt
            have xP0 := P.out.c0
            have xP1 := P.out.c1
            have xPl := P.out.lt
            have xU0 := U.out.c0
            have xU1 := U.out.c1
            have xUl := U.out.lt
            go_wp2_with fail
            clear xF0 xF1 xFl xD0 xD1 xDl xP0 xP1 xPl xU0 xU1 xUl
            refine (iIsHit u1 A1 n1 c1 xss _ F.out.rd (by omega) (by omega)).mono ?_
            rintro e w21 ⟨rfl, hb⟩
            replace HB := Lib.hid (HB.out.ext hb)
            replace F := Lib.hid (F.out.ext hb)
            replace D := Lib.hid (D.out.ext hb)
            replace P := Lib.hid (P.out.ext hb)
            replace U := Lib.hid (U.out.ext hb)
            replace X := Lib.hid (X.out.ext hb)
            replace Y := Lib.hid (Y.out.ext hb)
            clear hb
            rw [← HB1.out, ← HE1.out]
            by_cases hyes : b1 = true
            · skip
              subst hyes
              have he0 : e1 = 0 := by rw [HE1.out]; exact hit_code HB1.out.symm
              subst he0
              have HB2 := Lib.hid (hit_down hpb HB1.out.symm)
              have HE2 := Lib.hid (hit_code HB2.out)
              have xF0 := F.out.c0
              have xF1 := F.out.c1
              have xFl := F.out.lt
              have xD0 := D.out.c0
              have xD1 := D.out.c1
              have xDl := D.out.lt
              have xP0 := P.out.c0
              have xP1 := P.out.c1
              have xPl := P.out.lt
              have xU0 := U.out.c0
              have xU1 := U.out.c1
              have xUl := U.out.lt
              go_wp2_with fail
              clear xF0 xF1 xFl xD0 xD1 xDl xP0 xP1 xPl xU0 xU1 xUl
              refine (iIsHit u1 A2 (kd xss).length c2 (kd xss) _ D.out.rd (by omega) (by omega)).mono ?_
              rintro e w22 ⟨rfl, hb⟩
              replace HB := Lib.hid (HB.out.ext hb)
              replace F := Lib.hid (F.out.ext hb)
              replace D := Lib.hid (D.out.ext hb)
              replace P := Lib.hid (P.out.ext hb)
              replace U := Lib.hid (U.out.ext hb)
              replace X := Lib.hid (X.out.ext hb)
              replace Y := Lib.hid (Y.out.ext hb)
              clear hb
              rw [show hitB u1 (kd xss) = true from HB2.out, HE2.out]
              have xF0 := F.out.c0
              have xF1 := F.out.c1
              have xFl := F.out.lt
              have xD0 := D.out.c0
              have xD1 := D.out.c1
              have xDl := D.out.lt
              have xP0 := P.out.c0
              have xP1 := P.out.c1
              have xPl := P.out.lt
              have xU0 := U.out.c0
              have xU1 := U.out.c1
              have xUl := U.out.lt
              go_wp2_with fail
              clear xF0 xF1 xFl xD0 xD1 xDl xP0 xP1 xPl xU0 xU1 xUl
              rw [HR.out]
              exact ⟨rfl, HB.out.b⟩
            · skip
              obtain rfl : b1 = false := by simpa using hyes
              by_cases he0 : e1 = 0
              · skip
                subst he0
                have xF0 := F.out.c0
                have xF1 := F.out.c1
                have xFl := F.out.lt
                have xD0 := D.out.c0
                have xD1 := D.out.c1
                have xDl := D.out.lt
                have xP0 := P.out.c0
                have xP1 := P.out.c1
                have xPl := P.out.lt
                have xU0 := U.out.c0
                have xU1 := U.out.c1
                have xUl := U.out.lt
                go_wp2_with fail
                clear xF0 xF1 xFl xD0 xD1 xDl xP0 xP1 xPl xU0 xU1 xUl
                rw [HR.out]
                exact ⟨rfl, HB.out.b⟩
              · skip
                have he2 : (e1 != 0) = true := by simpa using he0
                have he3 : (e1 == 0) = false := by simpa using he0
                have xF0 := F.out.c0
                have xF1 := F.out.c1
                have xFl := F.out.lt
                have xD0 := D.out.c0
                have xD1 := D.out.c1
                have xDl := D.out.lt
                have xP0 := P.out.c0
                have xP1 := P.out.c1
                have xPl := P.out.lt
                have xU0 := U.out.c0
                have xU1 := U.out.c1
                have xUl := U.out.lt
                go_wp2_with fail
                clear xF0 xF1 xFl xD0 xD1 xDl xP0 xP1 xPl xU0 xU1 xUl
                rw [HR.out]
                exact ⟨rfl, HB.out.b⟩
          · skip
            by_cases hk1 : k1 = 0
            · skip
              subst hk1
              obtain rfl : n1 = 0 := by omega
              clear hlast
              have xF0 := F.out.c0
              have xF1 := F.out.c1
              have xFl := F.out.lt
              have xD0 := D.out.c0
              have xD1 := D.out.c1
              have xDl := D.out.lt
              have xP0 := P.out.c0
              have xP1 := P.out.c1
              have xPl := P.out.lt
              have xU0 := U.out.c0
              have xU1 := U.out.c1
              have xUl := U.out.lt
              go_wp2_with fail
              clear xF0 xF1 xFl xD0 xD1 xDl xP0 xP1 xPl xU0 xU1 xUl
              rw [HR.out]
              exact ⟨rfl, HB.out.b⟩
            · skip
              have hk2 : (k1 != 0) = true := by simpa using hk1
              clear hlast
              have xF0 := F.out.c0
              have xF1 := F.out.c1
              have xFl := F.out.lt
              have xD0 := D.out.c0
              have xD1 := D.out.c1
              have xDl := D.out.lt
              have xP0 := P.out.c0
              have xP1 := P.out.c1
              have xPl := P.out.lt
              have xU0 := U.out.c0
              have xU1 := U.out.c1
              have xUl := U.out.lt
              go_wp2_with fail
              clear xF0 xF1 xFl xD0 xD1 xDl xP0 xP1 xPl xU0 xU1 xUl
              rw [HR.out]
              exact ⟨rfl, HB.out.b⟩
    · skip
      have hk5 : (k4 == 0) = false := by simpa using hk4
      by_cases hlast : k1 = 0 ∧ 0 < n1
      · skip
        obtain ⟨hk1, hn10⟩ := hlast
        subst hk1
        obtain ⟨hpb, hu1, hys⟩ := kdm_inv HO1.out
        subst hu1
        subst hys
        obtain ⟨b1, hb1⟩ : ∃ b, b = hitB u1 xss := ⟨_, rfl⟩
        obtain ⟨e1, he1⟩ : ∃ e, e = (nrmO u1 xss).2.2 := ⟨_, rfl⟩
        have HB1 := Lib.hid hb1
        have HE1 := Lib.hid he1
        clear hb1 he1
        have xF0 := F.out.c0
        have xF1 := F.out.c1
        have xFl := F.out.lt
        have xD0 := D.out.c0
        have xD1 := D.out.c1
        have xDl := D.out.lt
        have xP0 := P.out.c0
        have xP1 := P.out.c1
        have xPl := P.out.lt
        have xU0 := U.out.c0
        have xU1 := U.out.c1
        have xUl := U.out.lt
        go_wp2_with fail
        clear xF0 xF1 xFl xD0 xD1 xDl xP0 xP1 xPl xU0 xU1 xUl
        refine (iIsHit u1 A1 n1 c1 xss _ F.out.rd (by omega) (by omega)).mono ?_
        rintro e w20 ⟨rfl, hb⟩
        replace HB := Lib.hid (HB.out.ext hb)
        replace F := Lib.hid (F.out.ext hb)
        replace D := Lib.hid (D.out.ext hb)
        replace P := Lib.hid (P.out.ext hb)
        replace U := Lib.hid (U.out.ext hb)
        replace X := Lib.hid (X.out.ext hb)
        replace Y := Lib.hid (Y.out.ext hb)
        clear hb
        rw [← HB1.out, ← HE1.out]
        by_cases hyes : b1 = true
        · skip
          subst hyes
          have he0 : e1 = 0 := by rw [HE1.out]; exact hit_code HB1.out.symm
          subst he0
          have HB2 := Lib.hid (hit_down hpb HB1.out.symm)
          have HE2 := Lib.hid (hit_code HB2.out)
          have xF0 := F.out.c0
          have xF1 := F.out.c1
          have xFl := F.out.lt
          have xD0 := D.out.c0
          have xD1 := D.out.c1
          have xDl := D.out.lt
          have xP0 := P.out.c0
          have xP1 := P.out.c1
          have xPl := P.out.lt
          have xU0 := U.out.c0
          have xU1 := U.out.c1
          have xUl := U.out.lt
          go_wp2_with fail
          clear xF0 xF1 xFl xD0 xD1 xDl xP0 xP1 xPl xU0 xU1 xUl
          refine (iIsHit u1 A2 (kd xss).length c2 (kd xss) _ D.out.rd (by omega) (by omega)).mono ?_
          rintro e w21 ⟨rfl, hb⟩
          replace HB := Lib.hid (HB.out.ext hb)
          replace F := Lib.hid (F.out.ext hb)
          replace D := Lib.hid (D.out.ext hb)
          replace P := Lib.hid (P.out.ext hb)
          replace U := Lib.hid (U.out.ext hb)
          replace X := Lib.hid (X.out.ext hb)
          replace Y := Lib.hid (Y.out.ext hb)
          clear hb
          rw [show hitB u1 (kd xss) = true from HB2.out, HE2.out]
          have xF0 := F.out.c0
          have xF1 := F.out.c1
          have xFl := F.out.lt
          have xD0 := D.out.c0
          have xD1 := D.out.c1
          have xDl := D.out.lt
          have xP0 := P.out.c0
          have xP1 := P.out.c1
          have xPl := P.out.lt
          have xU0 := U.out.c0
          have xU1 := U.out.c1
          have xUl := U.out.lt
          go_wp2_with fail
          clear xF0 xF1 xFl xD0 xD1 xDl xP0 xP1 xPl xU0 xU1 xUl
          rw [HR.out]
          exact ⟨rfl, HB.out.b⟩
        · skip
          obtain rfl : b1 = false := by simpa using hyes
          by_cases he0 : e1 = 0
          · skip
            subst he0
            have xF0 := F.out.c0
            have xF1 := F.out.c1
            have xFl := F.out.lt
            have xD0 := D.out.c0
            have xD1 := D.out.c1
            have xDl := D.out.lt
            have xP0 := P.out.c0
            have xP1 := P.out.c1
            have xPl := P.out.lt
            have xU0 := U.out.c0
            have xU1 := U.out.c1
            have xUl := U.out.lt
            go_wp2_with fail
            clear xF0 xF1 xFl xD0 xD1 xDl xP0 xP1 xPl xU0 xU1 xUl
            rw [HR.out]
            exact ⟨rfl, HB.out.b⟩
          · skip
            have he2 : (e1 != 0) = true := by simpa using he0
            have he3 : (e1 == 0) = false := by simpa using he0
            have xF0 := F.out.c0
            have xF1 := F.out.c1
            have xFl := F.out.lt
            have xD0 := D.out.c0
            have xD1 := D.out.c1
            have xDl := D.out.lt
            have xP0 := P.out.c0
            have xP1 := P.out.c1
            have xPl := P.out.lt
            have xU0 := U.out.c0
            have xU1 := U.out.c1
            have xUl := U.out.lt
            go_wp2_with fail
            clear xF0 xF1 xFl xD0 xD1 xDl xP0 xP1 xPl xU0 xU1 xUl
            rw [HR.out]
            exact ⟨rfl, HB.out.b⟩
      · skip
        by_cases hk1 : k1 = 0
        · skip
          subst hk1
          obtain rfl : n1 = 0 := by omega
          clear hlast
          have xF0 := F.out.c0
          have xF1 := F.out.c1
          have xFl := F.out.lt
          have xD0 := D.out.c0
          have xD1 := D.out.c1
          have xDl := D.out.lt
          have xP0 := P.out.c0
          have xP1 := P.out.c1
          have xPl := P.out.lt
          have xU0 := U.out.c0
          have xU1 := U.out.c1
          have xUl := U.out.lt
          go_wp2_with fail
          clear xF0 xF1 xFl xD0 xD1 xDl xP0 xP1 xPl xU0 xU1 xUl
          rw [HR.out]
          exact ⟨rfl, HB.out.b⟩
        · skip
          have hk2 : (k1 != 0) = true := by simpa using hk1
          clear hlast
          have xF0 := F.out.c0
          have xF1 := F.out.c1
          have xFl := F.out.lt
          have xD0 := D.out.c0
          have xD1 := D.out.c1
          have xDl := D.out.lt
          have xP0 := P.out.c0
          have xP1 := P.out.c1
          have xPl := P.out.lt
          have xU0 := U.out.c0
          have xU1 := U.out.c1
          have xUl := U.out.lt
          go_wp2_with fail
          clear xF0 xF1 xFl xD0 xD1 xDl xP0 xP1 xPl xU0 xU1 xUl
          rw [HR.out]
          exact ⟨rfl, HB.out.b⟩
end Go.Proofs.Ytoigdiekkkkapaa
