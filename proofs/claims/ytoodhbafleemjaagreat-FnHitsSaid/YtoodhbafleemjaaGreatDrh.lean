/- Draws for FnHits: spec.l09Degrees, l09Draw. -/
import Derived.Test.YtoodhbafleemjaaGreatHtI
import Derived.Test.YtoodhbafleemjaaGreatDrw
namespace Go.Proofs.YtoodhbafleemjaaGreat
open Go.RowKit
set_option linter.unusedVariables false

/-- a drawn number of variables and a degree -/
def RetDg (w : World) (e : Ending) (w' : World) : Prop := ∃ k d : Int, e = .returned (.tuple #[.int .i64 k, .int .i64 d]) ∧ 0 ≤ k ∧ k ≤ 5 ∧ -1 ≤ d ∧ d ≤ 41 ∧ Below w.heap.size w w'
theorem RetDg.mk {w w' : World} {k d : Int} (h0 : 0 ≤ k) (h1 : k ≤ 5) (h2 : -1 ≤ d) (h3 : d ≤ 41) (hb : Below w.heap.size w w') : RetDg w (.returned (.tuple #[.int .i64 k, .int .i64 d])) w' := ⟨k, d, rfl, h0, h1, h2, h3, hb⟩
set_option maxRecDepth 100000 in
theorem degrees09_any (A : Option Addr) (n c : Nat) (w : World) (h : RdB w w.heap.size A n c) (hn : n ≤ 4096) : Calls Tryz.prog 79 #[.slice A n c] w (RetDg w) := by
  obtain ⟨R, hR⟩ : ∃ R, R = RetDg w := ⟨_, rfl⟩
  have HR := Lib.hid hR
  rw [← hR]
  clear hR
  go_enter Tryz.func79, Tryz.ntmps79
  go_wp2_with fail
  refine (from_any A n c w h hn).mono ?_
  rintro e w1 ⟨rfl, hs1, hb1⟩
  obtain ⟨s, hs⟩ : ∃ s, s = w.heap.size := ⟨_, rfl⟩
  rw [← hs] at hs1 ⊢
  have HB := Lib.hid hb1
  have HS := Lib.hid hs1
  have hsw : w.heap.size ≤ s := Nat.le_of_eq hs.symm
  clear hs hs1 hb1
  go_wp2_with fail
  refine (pickLit_any s [1, 2, 2, 3, 3, 4] w1 HS.out (by simp) (by simp)).mono ?_
  rintro e w2 ⟨k, rfl, hk, hs1, hm1⟩
  have hk4 : 1 ≤ k ∧ k ≤ 4 := by
    simp only [List.mem_cons, List.not_mem_nil, or_false] at hk
    omega
  obtain ⟨j, hj⟩ : ∃ j : Nat, k = (j : Int) + 1 := ⟨(k - 1).toNat, by omega⟩
  have hj4 : j < 4 := by omega
  subst hj
  have hl1 := HS.out.lt
  replace HB := Lib.hid (HB.out.trans ((hm1.below (by omega)).mono hsw))
  replace HS := Lib.hid hs1
  have hwk : IntKind.i64.wrap ((j : Int) + 1 - 1) = (j : Int) := by rw [IntKind.wrap_i64]; omega
  obtain ⟨w3, hw3⟩ : ∃ W, W = w2.alloc (.cells #[.int .i64 41, .int .i64 20, .int .i64 9, .int .i64 6] 2) := ⟨_, rfl⟩
  obtain ⟨x, hx, hxb⟩ : ∃ x, w3.cell? ⟨w2.heap.size, j, none⟩ = some (.int .i64 x) ∧ 1 ≤ x ∧ x ≤ 41 := by
    rw [hw3]
    match j, hj4 with
    | 0, _ => exact ⟨41, lit_at rfl, by decide, by decide⟩
    | 1, _ => exact ⟨20, lit_at rfl, by decide, by decide⟩
    | 2, _ => exact ⟨9, lit_at rfl, by decide, by decide⟩
    | 3, _ => exact ⟨6, lit_at rfl, by decide, by decide⟩
  have hb3 : Below w2.heap.size w2 w3 := by rw [hw3]; exact (Below.refl _ _).alloc (Nat.le_refl _) _
  replace HS := Lib.hid (HS.out.ext hb3)
  replace HB := Lib.hid (HB.out.trans (hb3.mono HB.out.size))
  have Hw3 := Lib.hid hw3
  rw [hw3] at hx
  clear hk hs1 hm1 hl1 hb3 hw3
  go_wp2_with fail
  rw [← Hw3.out]
  refine (next_any s x w3 HS.out (by omega)).mono ?_
  rintro e w4 ⟨d, rfl, hd0, hd1, hs1, hm1, hz1⟩
  have hl1 := HS.out.lt
  replace HB := Lib.hid (HB.out.trans ((hm1.below (by omega)).mono hsw))
  replace HS := Lib.hid hs1
  have hd41 : 0 ≤ d ∧ d ≤ 41 := by omega
  clear hs1 hm1 hz1 hl1 hx hd0 hd1
  go_wp2_with fail
  refine (next_any s 30 w4 HS.out (by omega)).mono ?_
  rintro e w5 ⟨y, rfl, hy0, hy1, hs1, hm1, hz1⟩
  have hl1 := HS.out.lt
  replace HB := Lib.hid (HB.out.trans ((hm1.below (by omega)).mono hsw))
  replace HS := Lib.hid hs1
  clear hs1 hm1 hz1 hl1
  by_cases hy : y = 0
  · subst hy
    go_wp2_with fail
    refine (pickLit_any s [0, 5, 4] w5 HS.out (by simp) (by simp)).mono ?_
    rintro e w6 ⟨k1, rfl, hk1, hs1, hm1⟩
    have hk15 : 0 ≤ k1 ∧ k1 ≤ 5 := by
      simp only [List.mem_cons, List.not_mem_nil, or_false] at hk1
      omega
    have hl1 := HS.out.lt
    replace HB := Lib.hid (HB.out.trans ((hm1.below (by omega)).mono hsw))
    replace HS := Lib.hid hs1
    clear hs1 hm1 hk1 hl1
    go_wp2_with fail
    refine (pickLit_any s [-1, 41, 40] w6 HS.out (by simp) (by simp)).mono ?_
    rintro e w7 ⟨d1, rfl, hd1, hs1, hm1⟩
    have hd15 : -1 ≤ d1 ∧ d1 ≤ 41 := by
      simp only [List.mem_cons, List.not_mem_nil, or_false] at hd1
      omega
    have hl1 := HS.out.lt
    replace HB := Lib.hid (HB.out.trans ((hm1.below (by omega)).mono hsw))
    clear hs1 hm1 hd1 hl1
    go_wp2_with fail
    rw [HR.out]
    exact RetDg.mk (by omega) (by omega) (by omega) (by omega) HB.out
  · have hy2 : (y == 0) = false := by simpa using hy
    go_wp2_with fail
    rw [HR.out]
    exact RetDg.mk (by omega) (by omega) (by omega) (by omega) HB.out

theorem field1 (v : Int) (A : Option Addr) (n c : Nat) (W : World) : (Instr.field 26 (.agg #[.int .i64 v, .slice A n c]) 1).run Tryz.prog W = .ok (.slice A n c) W := by kernel_rfl
/-- Draw.. of a number of variables and a degree -/
theorem drawCohit_any (A : Option Addr) (n c : Nat) (w : World) (h : RdB w w.heap.size A n c) (hn : n ≤ 4096) : Calls Tryz.prog 25 #[.slice A n c] w (RetDg w) := by
  obtain ⟨R, hR⟩ : ∃ R, R = RetDg w := ⟨_, rfl⟩
  have HR := Lib.hid hR
  rw [← hR]
  clear hR
  go_enter Tryz.func25, Tryz.ntmps25
  go_wp2_with fail
  refine (degrees09_any A n c w h hn).mono ?_
  rintro e w1 ⟨k, d, rfl, h0, h1, h2, h3, hb⟩
  go_wp2_with fail
  rw [HR.out]
  exact RetDg.mk h0 h1 h2 h3 hb
set_option maxRecDepth 100000 in
set_option maxHeartbeats 1000000 in
theorem draw09_any (A : Option Addr) (n c : Nat) (w : World) (h : RdB w w.heap.size A n c) (hn : n ≤ 4096) : Calls Tryz.prog 93 #[.slice A n c] w (RetDP w) := by
  obtain ⟨w0, b, hw0, hbe, hb0, hz0, hF⟩ := start1 w (.int .i64 0) (.slice none 0 0) 26
  have Hw := Lib.hid hw0; clear hw0
  have Hbe := Lib.hid hbe; clear hbe
  have F0 := Lib.hid hF; clear hF
  have HZ := Lib.hid hz0; clear hz0
  have HRB := Lib.hid (show RdB w0 w0.heap.size A n c from (h.below hb0).mono hb0.size)
  go_enter Tryz.func93, Tryz.ntmps93
  go_wp2_with fail
  rw [← Hw.out, ← Hbe.out]
  refine (from_any A n c w0 HRB.out hn).mono ?_
  rintro e w1 ⟨rfl, hs1, hb1⟩
  have hl1 := hs1.lt
  obtain ⟨s, hs⟩ : ∃ s, s = w0.heap.size := ⟨_, rfl⟩
  rw [← hs] at hs1 hl1 ⊢
  have hsb : b < s := by rw [hs, HZ.out]; omega
  have hbw : w.heap.size < s := by rw [← Hbe.out]; exact hsb
  replace F0 := Lib.hid (F0.out.below hb1)
  have HB := Lib.hid (hb0.trans (hb1.mono hb0.size))
  have HS := Lib.hid hs1
  have HRB1 := Lib.hid ((HRB.out.below hb1).mono hb1.size)
  clear hb0 hb1 hs1 hs hl1
  go_wp2_with fail
  refine (degrees09_any A n c w1 HRB1.out hn).mono ?_
  rintro e w2 ⟨kk, dd, rfl, hk0, hk5, hd0, hd1, hb2⟩
  replace F0 := Lib.hid (F0.out.below hb2)
  replace HB := Lib.hid (HB.out.trans (hb2.mono HB.out.size))
  replace HS := Lib.hid (HS.out.ext hb2)
  clear hb2 HRB1
  go_wp2_with fail
  refine (next_any s 12 w2 HS.out (by omega)).mono ?_
  rintro e w3 ⟨x, rfl, hx0, hx1, hs1, hm1, hz1⟩
  have hl1 := HS.out.lt
  replace F0 := Lib.hid (F0.out.mid hm1 (by simp; omega))
  replace HB := Lib.hid (HB.out.trans ((hm1.below (by omega)).mono (Nat.le_of_lt hbw)))
  replace HS := Lib.hid hs1
  clear hs1 hm1 hz1 hl1
  obtain ⟨cd, hcd⟩ : ∃ cd, cd = cdO kk dd := ⟨_, rfl⟩
  have HCD := Lib.hid hcd
  have HCC := Lib.hid (code09_any kk dd w3)
  rw [← hcd] at HCC
  clear hcd
  have spoil : ∀ W : World, Hid (Src W s) → Hid (Cells [(b, 0, .int .i64 0), (b, 1, .slice none 0 0)] W) → Hid (Below w.heap.size w W) → Calls Tryz.prog 68 #[.pointer (some ⟨s, 0, none⟩), .int .i64 12] W (fun e W2 => ∃ v A2 n2 c2 xss, e = .returned (.agg #[.int .i64 v, .slice A2 n2 c2]) ∧ Hid (OwnL W2 (b + 1) W2.heap.size A2 n2 c2 xss) ∧ n2 ≤ 2000 ∧ totalL xss ≤ 8000 ∧ Hid (Cells [(b, 0, .int .i64 0), (b, 1, .slice none 0 0)] W2) ∧ Hid (Below w.heap.size w W2) ∧ Hid (b + 1 ≤ W2.heap.size)) := by
    intro W hS hF hB
    refine (spoil08_any s 12 W hS.out (by decide) (by decide)).mono ?_
    rintro e W2 ⟨v, k, hv0, hv5, hk1, hk4, A2, n2, c2, xss, rfl, ho, hp, hn2, hs2, hm2⟩
    have hl := hS.out.lt
    have ht := hp.tot hk4
    rw [ho.len] at ht
    exact ⟨v, A2, n2, c2, xss, rfl, Lib.hid (ho.mono (by omega) (Nat.le_refl _)), by omega, by omega, Lib.hid (hF.out.mid hm2 (by simp; omega)), Lib.hid (hB.out.trans ((hm2.below (by omega)).mono (Nat.le_of_lt hbw))), Lib.hid (by have := hm2.size; omega)⟩
  by_cases hx : x = 0
  · subst hx
    go_wp2_with fail
    refine (spoil _ HS F0 HB).mono ?_
    rintro e w4 ⟨v, A2, n2, c2, xss, rfl, HO, hn2, ht2, HF, HB4, HZ4⟩
    have q0 := HF.out.at_ (b := b) (o := 0) (V := .int .i64 0) (by simp)
    have q1 := HF.out.at_ (b := b) (o := 1) (V := .slice none 0 0) (by simp)
    have f0 := HF.out.fr (b := b) (o := 0) (V := .int .i64 0) (by simp)
    have f1 := HF.out.fr (b := b) (o := 1) (V := .slice none 0 0) (by simp)
    have hres := cells_end q0 q1 (.int .i64 v) (.slice A2 n2 c2)
    go_wp2_with fail
    refine bodyPost_ret (v := .agg #[.int .i64 v, .slice A2 n2 c2]) (by simp [results, Tryz.results93, go_sem, hres.1, hres.2]) rfl ?_
    exact RetDP.fin Hbe.out HZ4.out HO.out hn2 ht2 HB4.out
  · have hx2 : (x == 0) = false := by simpa using hx
    by_cases hc : cd = 0
    · obtain ⟨K, D, hKD, hM⟩ := cdK_zero (HCD.out.symm.trans hc)
      obtain ⟨K1, hK1⟩ : ∃ K1, K1 = K + 1 := ⟨_, rfl⟩
      obtain rfl : kk = (K1 : Int) := by have := hKD.ev; omega
      obtain rfl : dd = (D : Int) := hKD.ed
      have hK3 := hKD.k3
      have hD40 := hKD.d40
      have HM := Lib.hid hM
      have HK1 := Lib.hid hK1
      have hK14 : 1 ≤ K1 ∧ K1 ≤ 4 := by omega
      clear hK1
      subst hc
      clear hKD hM HCD
      go_wp2_with fail
      refine HCC.out.mono ?_
      rintro e w3' ⟨rfl, rfl⟩
      go_wp2_with fail
      refine (with08d_any s K1 (D : Int) _ HS.out (by omega) (by omega) (by omega) (by omega)).mono ?_
      rintro e w4 ⟨A4, n4, c4, f4, rfl, ho4, hx4, hn4, hs4, hm4⟩
      have hl1 := HS.out.lt
      have ht4 : totalL f4 ≤ 20 := by
        have h1 := totalL_le f4 4 fun r hr => by rw [(hx4 r hr).2.2]; omega
        rw [ho4.len] at h1
        omega
      replace F0 := Lib.hid (F0.out.mid hm4 (by simp; omega))
      replace HB := Lib.hid (HB.out.trans ((hm4.below (by omega)).mono (Nat.le_of_lt hbw)))
      replace HS := Lib.hid hs4
      have HO := Lib.hid (ho4.mono hl1 (Nat.le_refl _))
      clear ho4 hs4 hm4 hl1 spoil HCC
      go_wp2_with fail
      obtain ⟨w5, hw5⟩ : ∃ W, W = w4.alloc (.cells #[.int .i64 (K1 : Int), .slice A4 n4 c4] 26) := ⟨_, rfl⟩
      obtain ⟨q, hq⟩ : ∃ q, q = w4.heap.size := ⟨_, rfl⟩
      rw [← hw5, ← hq]
      have hb5 : Below w4.heap.size w4 w5 := by rw [hw5]; exact (Below.refl _ _).alloc (Nat.le_refl _) _
      have G0 := Lib.hid (show Cells [(q, 0, .int .i64 (K1 : Int)), (q, 1, .slice A4 n4 c4)] w5 by rw [hw5]; exact Cells.nil.alloc2 _ _ _ hq)
      have hsq : s < q := by rw [hq]; exact HS.out.lt
      replace HO := Lib.hid ((HO.out.below hb5).mono (Nat.le_refl _) (show w4.heap.size ≤ q from Nat.le_of_eq hq.symm))
      replace HS := Lib.hid (HS.out.ext hb5)
      replace F0 := Lib.hid (F0.out.below hb5)
      replace HB := Lib.hid (HB.out.trans (hb5.mono HB.out.size))
      clear hw5 hb5 hq
      refine (next_any s 2 w5 HS.out (by omega)).mono ?_
      rintro e w6 ⟨x2, rfl, hx20, hx21, hs1, hm1, hz1⟩
      have hqz : q < w6.heap.size := by have h1 := G0.out.lt (q, 0, .int .i64 (K1 : Int)) (by simp); have h2 := hm1.size; dsimp only at h1; omega
      replace F0 := Lib.hid (F0.out.mid hm1 (by simp; omega))
      replace G0 := Lib.hid (G0.out.mid hm1 (by simp; omega))
      replace HO := Lib.hid (HO.out.mid hm1 (Nat.le_refl _))
      replace HB := Lib.hid (HB.out.trans ((hm1.below (by omega)).mono (Nat.le_of_lt hbw)))
      replace HS := Lib.hid hs1
      clear hs1 hm1 hz1
      have HZ4 := Lib.hid (show b + 1 ≤ w6.heap.size by omega)
      by_cases hx2z : x2 = 0
      · subst hx2z
        by_cases hDz : 0 < (D : Int)
        · have hdp : decide (0 < (D : Int)) = true := decide_eq_true hDz
          go_wp2_with fail
          refine (pickLit_any s [1, 1, 2] w6 HS.out (by simp) (by simp)).mono ?_
          rintro e w7 ⟨i, rfl, hi, hs1, hm1⟩
          have hi2 : 1 ≤ i ∧ i ≤ 2 := by
            simp only [List.mem_cons, List.not_mem_nil, or_false] at hi
            omega
          replace F0 := Lib.hid (F0.out.mid hm1 (by simp; omega))
          replace G0 := Lib.hid (G0.out.mid hm1 (by simp; omega))
          replace HO := Lib.hid (HO.out.mid hm1 (Nat.le_refl _))
          replace HB := Lib.hid (HB.out.trans ((hm1.below (by omega)).mono (Nat.le_of_lt hbw)))
          replace HS := Lib.hid hs1
          have hz67 := hm1.size
          replace HZ4 := Lib.hid (show b + 1 ≤ w7.heap.size by omega)
          clear hs1 hm1 hi
          by_cases hiD : i ≤ (D : Int)
          · have hidc : decide (i ≤ (D : Int)) = true := decide_eq_true hiD
            have hwr : IntKind.i64.wrap ((D : Int) - i) = (D : Int) - i := by rw [IntKind.wrap_i64]; omega
            go_wp2_with fail
            refine (with08d_any s K1 ((D : Int) - i) _ HS.out (by omega) (by omega) (by omega) (by omega)).mono ?_
            rintro e w8 ⟨A8, n8, c8, f8, rfl, ho8, hx8, hn8, hs8, hm8⟩
            have hq8 : q < w8.heap.size := by have := hm8.size; omega
            replace F0 := Lib.hid (F0.out.mid hm8 (by simp; omega))
            replace G0 := Lib.hid (G0.out.mid hm8 (by simp; omega))
            replace HB := Lib.hid (HB.out.trans ((hm8.below (by omega)).mono (Nat.le_of_lt hbw)))
            have HSq := Lib.hid (l08Square_any A8 n8 c8 K1 ((D : Int) - i) i f8 w8 ho8.rd hx8 (by omega) (by omega) (by omega) (by omega))
            have hsub : ∀ z ∈ sqP f8 i, z ∈ mons K D := fun z hz => by
              have h1 := sqP_deg (k := K1) (d := (D : Int) - i) (i := i) (xss := f8) hx8 z hz
              refine (mons_mem K D z).2 ?_
              have e : (D : Int) - i + i = (D : Int) := by omega
              rw [e, HK1.out] at h1
              exact h1
            have hlen : (oddL (sqP f8 i)).length ≤ 100 := Nat.le_trans (asc_le (oddL_asc _) fun z hz => hsub z (oddL_mem hz)) HM.out
            have htot : totalL (oddL (sqP f8 i)) ≤ 400 := by
              have h1 := totalL_le (oddL (sqP f8 i)) 4 fun r hr => by have := ((mons_mem K D r).1 (hsub r (oddL_mem hr))).2.2; omega
              omega
            obtain ⟨ys, hys⟩ : ∃ ys, ys = oddL (sqP f8 i) := ⟨_, rfl⟩
            rw [← hys] at HSq hlen htot
            obtain ⟨yn, hyn⟩ : ∃ yn, yn = ys.length := ⟨_, rfl⟩
            rw [← hyn] at HSq hlen
            clear ho8 hx8 hs8 hm8 hsub hys hyn HO
            have hfd := fun W => field1 (K1 : Int) A8 n8 c8 W
            go_wp2_with fail
            refine HSq.out.mono ?_
            rintro e w9 ⟨A9, c9, rfl, ho9, hb9⟩
            replace F0 := Lib.hid (F0.out.below hb9)
            replace G0 := Lib.hid (G0.out.below hb9)
            replace HB := Lib.hid (HB.out.trans (hb9.mono HB.out.size))
            have hz9 := hb9.size
            have HO := Lib.hid (ho9.mid (mid_setCell (p := ⟨q, 1, none⟩) (B := q) (K := q + 1) (.slice A9 yn c9) ⟨Nat.le_refl _, Nat.lt_succ_self _⟩) (by omega))
            have g1 := G0.out.at_ (b := q) (o := 1) (V := .slice A4 n4 c4) (by simp)
            have gf := G0.out.fr (b := q) (o := 1) (V := .slice A4 n4 c4) (by simp)
            have p0 := F0.out.at_ (b := b) (o := 0) (V := .int .i64 0) (by simp)
            have p1 := F0.out.at_ (b := b) (o := 1) (V := .slice none 0 0) (by simp)
            have pf0 := F0.out.fr (b := b) (o := 0) (V := .int .i64 0) (by simp)
            have pf1 := F0.out.fr (b := b) (o := 1) (V := .slice none 0 0) (by simp)
            have p2 := G0.out.at_ (b := q) (o := 0) (V := .int .i64 (K1 : Int)) (by simp)
            have HB9 := Lib.hid (HB.out.setCell (p := ⟨q, 1, none⟩) (by show w.heap.size ≤ q; omega) (.slice A9 yn c9))
            have hb10 : Below q w9 (w9.setCell ⟨q, 1, none⟩ (.slice A9 yn c9)) := (Below.refl q w9).setCell (p := ⟨q, 1, none⟩) (Nat.le_refl _) _
            replace F0 := Lib.hid (F0.out.belowB hb10 (by simp; omega))
            replace G0 := Lib.hid (show Cells [(q, 0, .int .i64 (K1 : Int)), (q, 1, .slice A9 yn c9)] (w9.setCell ⟨q, 1, none⟩ (.slice A9 yn c9)) from (Cells.set (L := [(q, 0, .int .i64 (K1 : Int))]) (G0.out.sub (M := [(q, 1, .slice A4 n4 c4), (q, 0, .int .i64 (K1 : Int))]) (by simp)) (by simp) (.slice A9 yn c9)).sub (by simp))
            replace HB := HB9
            obtain ⟨w10, hw10⟩ : ∃ W, W = w9.setCell ⟨q, 1, none⟩ (.slice A9 yn c9) := ⟨_, rfl⟩
            rw [← hw10] at F0 G0 HB HO
            have hz10 : w10.heap.size = w9.heap.size := by rw [hw10]; simp [World.setCell]
            replace HO := Lib.hid (show OwnL w10 (b + 1) w10.heap.size A9 yn c9 ys from HO.out.mono (by omega) (by omega))
            replace HZ4 := Lib.hid (show b + 1 ≤ w10.heap.size by omega)
            have Hw10 := Lib.hid hw10
            clear ho9 hb9 hb10 hw10 HB9
            go_wp2_with fail
            rw [← Hw10.out]
            have q0 := F0.out.at_ (b := b) (o := 0) (V := .int .i64 0) (by simp)
            have q1 := F0.out.at_ (b := b) (o := 1) (V := .slice none 0 0) (by simp)
            have f0 := F0.out.fr (b := b) (o := 0) (V := .int .i64 0) (by simp)
            have f1 := F0.out.fr (b := b) (o := 1) (V := .slice none 0 0) (by simp)
            have c0 := G0.out.at_ (b := q) (o := 0) (V := .int .i64 (K1 : Int)) (by simp)
            have c1 := G0.out.at_ (b := q) (o := 1) (V := .slice A9 yn c9) (by simp)
            have hres := cells_end q0 q1 (.int .i64 (K1 : Int)) (.slice A9 yn c9)
            refine bodyPost_ret (v := .agg #[.int .i64 (K1 : Int), .slice A9 yn c9]) (by simp [results, Tryz.results93, go_sem, hres.1, hres.2]) rfl ?_
            exact RetDP.fin Hbe.out HZ4.out HO.out (by omega) (by omega) HB.out
          · have hidc : decide (i ≤ (D : Int)) = false := decide_eq_false hiD
            replace HO := Lib.hid (HO.out.mono (show b + 1 ≤ s + 1 by omega) (show q ≤ w7.heap.size by omega))
            have q0 := F0.out.at_ (b := b) (o := 0) (V := .int .i64 0) (by simp)
            have q1 := F0.out.at_ (b := b) (o := 1) (V := .slice none 0 0) (by simp)
            have f0 := F0.out.fr (b := b) (o := 0) (V := .int .i64 0) (by simp)
            have f1 := F0.out.fr (b := b) (o := 1) (V := .slice none 0 0) (by simp)
            have c0 := G0.out.at_ (b := q) (o := 0) (V := .int .i64 (K1 : Int)) (by simp)
            have c1 := G0.out.at_ (b := q) (o := 1) (V := .slice A4 n4 c4) (by simp)
            have hres := cells_end q0 q1 (.int .i64 (K1 : Int)) (.slice A4 n4 c4)
            go_wp2_with fail
            refine bodyPost_ret (v := .agg #[.int .i64 (K1 : Int), .slice A4 n4 c4]) (by simp [results, Tryz.results93, go_sem, hres.1, hres.2]) rfl ?_
            exact RetDP.fin Hbe.out HZ4.out HO.out (by omega) (by omega) HB.out
        · have hdp : decide (0 < (D : Int)) = false := decide_eq_false hDz
          replace HO := Lib.hid (HO.out.mono (show b + 1 ≤ s + 1 by omega) (show q ≤ w6.heap.size by omega))
          have q0 := F0.out.at_ (b := b) (o := 0) (V := .int .i64 0) (by simp)
          have q1 := F0.out.at_ (b := b) (o := 1) (V := .slice none 0 0) (by simp)
          have f0 := F0.out.fr (b := b) (o := 0) (V := .int .i64 0) (by simp)
          have f1 := F0.out.fr (b := b) (o := 1) (V := .slice none 0 0) (by simp)
          have c0 := G0.out.at_ (b := q) (o := 0) (V := .int .i64 (K1 : Int)) (by simp)
          have c1 := G0.out.at_ (b := q) (o := 1) (V := .slice A4 n4 c4) (by simp)
          have hres := cells_end q0 q1 (.int .i64 (K1 : Int)) (.slice A4 n4 c4)
          go_wp2_with fail
          refine bodyPost_ret (v := .agg #[.int .i64 (K1 : Int), .slice A4 n4 c4]) (by simp [results, Tryz.results93, go_sem, hres.1, hres.2]) rfl ?_
          exact RetDP.fin Hbe.out HZ4.out HO.out (by omega) (by omega) HB.out
      · have hx22 : (x2 == 0) = false := by simpa using hx2z
        replace HO := Lib.hid (HO.out.mono (show b + 1 ≤ s + 1 by omega) (show q ≤ w6.heap.size by omega))
        have q0 := F0.out.at_ (b := b) (o := 0) (V := .int .i64 0) (by simp)
        have q1 := F0.out.at_ (b := b) (o := 1) (V := .slice none 0 0) (by simp)
        have f0 := F0.out.fr (b := b) (o := 0) (V := .int .i64 0) (by simp)
        have f1 := F0.out.fr (b := b) (o := 1) (V := .slice none 0 0) (by simp)
        have c0 := G0.out.at_ (b := q) (o := 0) (V := .int .i64 (K1 : Int)) (by simp)
        have c1 := G0.out.at_ (b := q) (o := 1) (V := .slice A4 n4 c4) (by simp)
        have hres := cells_end q0 q1 (.int .i64 (K1 : Int)) (.slice A4 n4 c4)
        go_wp2_with fail
        refine bodyPost_ret (v := .agg #[.int .i64 (K1 : Int), .slice A4 n4 c4]) (by simp [results, Tryz.results93, go_sem, hres.1, hres.2]) rfl ?_
        exact RetDP.fin Hbe.out HZ4.out HO.out (by omega) (by omega) HB.out
    · have hc2 : (cd != 0) = true := by simpa using hc
      go_wp2_with fail
      refine HCC.out.mono ?_
      rintro e w3' ⟨rfl, rfl⟩
      go_wp2_with fail
      refine (spoil _ HS F0 HB).mono ?_
      rintro e w4 ⟨v, A2, n2, c2, xss, rfl, HO, hn2, ht2, HF, HB4, HZ4⟩
      have q0 := HF.out.at_ (b := b) (o := 0) (V := .int .i64 0) (by simp)
      have q1 := HF.out.at_ (b := b) (o := 1) (V := .slice none 0 0) (by simp)
      have f0 := HF.out.fr (b := b) (o := 0) (V := .int .i64 0) (by simp)
      have f1 := HF.out.fr (b := b) (o := 1) (V := .slice none 0 0) (by simp)
      have hres := cells_end q0 q1 (.int .i64 v) (.slice A2 n2 c2)
      go_wp2_with fail
      refine bodyPost_ret (v := .agg #[.int .i64 v, .slice A2 n2 c2]) (by simp [results, Tryz.results93, go_sem, hres.1, hres.2]) rfl ?_
      exact RetDP.fin Hbe.out HZ4.out HO.out hn2 ht2 HB4.out
theorem drawNormal_any (A : Option Addr) (n c : Nat) (w : World) (h : RdB w w.heap.size A n c) (hn : n ≤ 4096) : Calls Tryz.prog 38 #[.slice A n c] w (RetDP w) := by
  obtain ⟨w0, b, hw0, hbe, hb0, hz0, hF⟩ := start1 w (.int .i64 0) (.slice none 0 0) 26
  have Hw := Lib.hid hw0; clear hw0
  have Hbe := Lib.hid hbe; clear hbe
  have F0 := Lib.hid hF; clear hF
  have HZ := Lib.hid hz0; clear hz0
  have HRB := Lib.hid (show RdB w0 w0.heap.size A n c from (h.below hb0).mono hb0.size)
  go_enter Tryz.func38, Tryz.ntmps38
  go_wp2_with fail
  rw [← Hw.out, ← Hbe.out]
  refine (draw09_any A n c w0 HRB.out hn).mono ?_
  rintro e w1 ⟨v, A2, n2, c2, xss, rfl, ho, hn2, ht2, hb2⟩
  replace F0 := Lib.hid (F0.out.below hb2)
  have HB := Lib.hid (hb0.trans (hb2.mono hb0.size))
  have HZ4 := Lib.hid (show b + 1 ≤ w1.heap.size by have := hb2.size; have := HZ.out; omega)
  have HO := Lib.hid (ho.mono (show b + 1 ≤ w0.heap.size by have := HZ.out; omega) (Nat.le_refl _))
  clear ho hb2 hb0
  have q0 := F0.out.at_ (b := b) (o := 0) (V := .int .i64 0) (by simp)
  have q1 := F0.out.at_ (b := b) (o := 1) (V := .slice none 0 0) (by simp)
  have f0 := F0.out.fr (b := b) (o := 0) (V := .int .i64 0) (by simp)
  have f1 := F0.out.fr (b := b) (o := 1) (V := .slice none 0 0) (by simp)
  have hres := cells_end q0 q1 (.int .i64 v) (.slice A2 n2 c2)
  go_wp2_with fail
  refine bodyPost_ret (v := .agg #[.int .i64 v, .slice A2 n2 c2]) (by simp [results, Tryz.results38, go_sem, hres.1, hres.2]) rfl ?_
  exact RetDP.fin Hbe.out HZ4.out HO.out hn2 ht2 HB.out
theorem drawIsHit_any (A : Option Addr) (n c : Nat) (w : World) (h : RdB w w.heap.size A n c) (hn : n ≤ 4096) : Calls Tryz.prog 42 #[.slice A n c] w (RetDP w) := by
  obtain ⟨w0, b, hw0, hbe, hb0, hz0, hF⟩ := start1 w (.int .i64 0) (.slice none 0 0) 26
  have Hw := Lib.hid hw0; clear hw0
  have Hbe := Lib.hid hbe; clear hbe
  have F0 := Lib.hid hF; clear hF
  have HZ := Lib.hid hz0; clear hz0
  have HRB := Lib.hid (show RdB w0 w0.heap.size A n c from (h.below hb0).mono hb0.size)
  go_enter Tryz.func42, Tryz.ntmps42
  go_wp2_with fail
  rw [← Hw.out, ← Hbe.out]
  refine (draw09_any A n c w0 HRB.out hn).mono ?_
  rintro e w1 ⟨v, A2, n2, c2, xss, rfl, ho, hn2, ht2, hb2⟩
  replace F0 := Lib.hid (F0.out.below hb2)
  have HB := Lib.hid (hb0.trans (hb2.mono hb0.size))
  have HZ4 := Lib.hid (show b + 1 ≤ w1.heap.size by have := hb2.size; have := HZ.out; omega)
  have HO := Lib.hid (ho.mono (show b + 1 ≤ w0.heap.size by have := HZ.out; omega) (Nat.le_refl _))
  clear ho hb2 hb0
  have q0 := F0.out.at_ (b := b) (o := 0) (V := .int .i64 0) (by simp)
  have q1 := F0.out.at_ (b := b) (o := 1) (V := .slice none 0 0) (by simp)
  have f0 := F0.out.fr (b := b) (o := 0) (V := .int .i64 0) (by simp)
  have f1 := F0.out.fr (b := b) (o := 1) (V := .slice none 0 0) (by simp)
  have hres := cells_end q0 q1 (.int .i64 v) (.slice A2 n2 c2)
  go_wp2_with fail
  refine bodyPost_ret (v := .agg #[.int .i64 v, .slice A2 n2 c2]) (by simp [results, Tryz.results42, go_sem, hres.1, hres.2]) rfl ?_
  exact RetDP.fin Hbe.out HZ4.out HO.out hn2 ht2 HB.out
end Go.Proofs.YtoodhbafleemjaaGreat
