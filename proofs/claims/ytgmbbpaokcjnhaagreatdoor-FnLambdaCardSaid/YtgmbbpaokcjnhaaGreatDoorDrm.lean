/- Draws of pairs of lambda sums. -/
import Derived.Test.YtgmbbpaokcjnhaaGreatDoorDrl
import Derived.Test.YtgmbbpaokcjnhaaGreatDoorLwIsLam
namespace Go.Proofs.YtgmbbpaokcjnhaaGreatDoor
open Go.RowKit
set_option linter.unusedVariables false

/-- two drawn sums -/
def RetD2 (w : World) (e : Ending) (w' : World) : Prop :=
  ∃ (A : Option Addr) (n c : Nat) (xss : List (List Int)) (A' : Option Addr) (n' c' : Nat) (yss : List (List Int)), e = .returned (.tuple #[.agg #[.slice A n c], .agg #[.slice A' n' c']]) ∧ RdL w' w'.heap.size A n c xss ∧ RdL w' w'.heap.size A' n' c' yss ∧
    n ≤ 5 ∧ totalL xss ≤ 35 ∧ n' ≤ 5 ∧ totalL yss ≤ 35 ∧ Below w.heap.size w w'
theorem start11 (w : World) (T : TypeId) (b : Nat) (w0 : World) (hbe : b = w.heap.size) (hw0 : w0 = (w.alloc (.cells #[.slice none 0 0] T)).alloc (.cells #[.slice none 0 0] T)) :
    Cells [(b + 1, 0, .slice none 0 0), (b, 0, .slice none 0 0)] w0 ∧ Below w.heap.size w w0 ∧ w0.heap.size = b + 2 := by
  subst hw0
  refine ⟨?_, ((Below.refl _ _).alloc (Nat.le_refl _) _).alloc (by simp) _, by simp [hbe]⟩
  have h1 : Cells [(b, 0, .slice none 0 0)] (w.alloc (.cells #[.slice none 0 0] T)) := Cells.alloc1' _ _ hbe
  exact h1.alloc1 (.slice none 0 0) T (by simp [hbe])
theorem RetD2.fin {w wr : World} {b n c n' c' : Nat} {A A' : Option Addr} {xss yss : List (List Int)} {X Y : Value} (hbe : b = w.heap.size) (hz : b + 2 ≤ wr.heap.size) (O : OwnL wr (b + 2) wr.heap.size A n c xss) (P : OwnL wr (b + 2) wr.heap.size A' n' c' yss)
    (hn : n ≤ 5) (ht : totalL xss ≤ 35) (hn' : n' ≤ 5) (ht' : totalL yss ≤ 35) (hb : Below w.heap.size w wr) :
    RetD2 w (.returned (.tuple #[.agg #[.slice A n c], .agg #[.slice A' n' c']])) ((wr.setCell ⟨b, 0, none⟩ X).setCell ⟨b + 1, 0, none⟩ Y) := by
  have hm2 : Mid b (b + 2) wr ((wr.setCell ⟨b, 0, none⟩ X).setCell ⟨b + 1, 0, none⟩ Y) := (mid_setCell (B := b) (K := b + 2) (p := ⟨b, 0, none⟩) _ ⟨Nat.le_refl _, Nat.lt_add_of_pos_right (by decide)⟩).trans (mid_setCell (B := b) (K := b + 2) (p := ⟨b + 1, 0, none⟩) _ ⟨Nat.le_succ b, Nat.lt_succ_self _⟩)
  exact ⟨A, n, c, xss, A', n', c', yss, rfl, (O.mid hm2 (Nat.le_refl _)).rd, (P.mid hm2 (Nat.le_refl _)).rd, hn, ht, hn', ht', hb.trans ((hm2.below (by omega)).mono (Nat.le_of_eq hbe.symm))⟩
theorem cell_mid {w w' : World} {B K : Nat} {a : Addr} {v : Value} (m : Mid B K w w') (hl : a.block < w.heap.size) (ha : a.block < B ∨ K ≤ a.block) (h : w.cell? a = some v) : w'.cell? a = some v := by
  have hb := m.block a.block hl ha
  simp only [World.cell?, hb] at h ⊢
  exact h
theorem cells_end2 {w : World} {b : Nat} {U0 U1 : Value} (h0 : w.cell? ⟨b, 0, none⟩ = some U0) (h1 : w.cell? ⟨b + 1, 0, none⟩ = some U1) (V0 V1 : Value) :
    ((w.setCell ⟨b, 0, none⟩ V0).setCell ⟨b + 1, 0, none⟩ V1).cell? ⟨b, 0, none⟩ = some V0 ∧ ((w.setCell ⟨b, 0, none⟩ V0).setCell ⟨b + 1, 0, none⟩ V1).cell? ⟨b + 1, 0, none⟩ = some V1 := by
  constructor
  · rw [World.cell?_setCell_other]
    · rw [World.cell?_setCell_same (u := U0)]; exact h0
    · simp
  · rw [World.cell?_setCell_same (u := U1)]
    rw [World.cell?_setCell_other]
    · exact h1
    · simp

set_option maxRecDepth 100000 in
set_option maxHeartbeats 1000000 in
theorem drawMultiplyLambda_any (A : Option Addr) (n c : Nat) (w : World) (h : RdB w w.heap.size A n c) (hn : n ≤ 4096) : Calls Tryz.prog 5 #[.slice A n c] w (RetD2 w) := by
  obtain ⟨b, hbe⟩ : ∃ b, b = w.heap.size := ⟨_, rfl⟩
  obtain ⟨w0, hw0⟩ : ∃ w0, w0 = (w.alloc (.cells #[.slice none 0 0] 26)).alloc (.cells #[.slice none 0 0] 26) := ⟨_, rfl⟩
  obtain ⟨hF, hb0, hz0⟩ := start11 w 26 b w0 hbe hw0
  have F0 := Lib.hid hF
  have HZ := Lib.hid hz0
  have Hw := Lib.hid hw0
  have Hbe := Lib.hid hbe
  clear hw0 hbe hF hz0
  go_enter Tryz.func5, Tryz.ntmps5
  go_wp2_with fail
  rw [← Hw.out, ← Hbe.out]
  refine (from_any A n c w0 ((h.below hb0).mono hb0.size) hn).mono ?_
  rintro e w1 ⟨rfl, hs1, hb1⟩
  rw [HZ.out] at hs1 ⊢
  have hl1 := hs1.lt
  have HS1 := Lib.hid hs1
  have HB1 := Lib.hid hb1
  clear hs1 hb1
  go_wp2_with fail
  refine (some16_any (b + 2) w1 HS1.out).mono ?_
  rintro e w2 h2
  obtain ⟨A2, n2, c2, xss, rfl, ho2, hn2, ht2, hb2, hs2, hm2⟩ := h2.dl (Nat.le_refl _) (Nat.le_of_eq HZ.out) HB1.out hl1
  have hl2 := hs2.lt
  have HS2 := Lib.hid hs2
  have HB2 := Lib.hid hb2
  have HO2 := Lib.hid ho2
  clear hs2 hb2 ho2 hm2
  go_wp2_with fail
  refine (some16_any (b + 2) w2 HS2.out).mono ?_
  rintro e w3 h3
  obtain ⟨A3, n3, c3, yss, rfl, ho3, hn3, ht3, hb3, hs3, hm3⟩ := h3.dl (Nat.le_refl _) (Nat.le_of_eq HZ.out) HB2.out hl2
  have hz3 : b + 2 ≤ w3.heap.size := by have := hb3.size; rw [HZ.out] at this; exact this
  have HF := Lib.hid (RetD2.fin (X := .slice A2 n2 c2) (Y := .slice A3 n3 c3) Hbe.out hz3 ((HO2.out.mid hm3 (by omega)).mono (by omega) hm3.size) (ho3.mono (by omega) (Nat.le_refl _)) hn2 ht2 hn3 ht3 (hb0.trans (hb3.mono hb0.size)))
  have F3 := Lib.hid (F0.out.below hb3)
  have q0 := F3.out.at_ (b := b) (o := 0) (V := .slice none 0 0) (by simp)
  have f0 := F3.out.fr (b := b) (o := 0) (V := .slice none 0 0) (by simp)
  have q1 := F3.out.at_ (b := b + 1) (o := 0) (V := .slice none 0 0) (by simp)
  have f1 := F3.out.fr (b := b + 1) (o := 0) (V := .slice none 0 0) (by simp)
  have hres := cells_end2 q0 q1 (.slice A2 n2 c2) (.slice A3 n3 c3)
  clear ho3 hb3 hs3 hm3 hz3
  go_wp2_with fail
  refine bodyPost_ret (v := .tuple #[.agg #[.slice A2 n2 c2], .agg #[.slice A3 n3 c3]]) (by simp [results, Tryz.results5, go_sem, hres.1, hres.2]) rfl ?_
  exact HF.out

set_option maxRecDepth 100000 in
set_option maxHeartbeats 2000000 in
theorem drawAddLambda_any (A : Option Addr) (n c : Nat) (w : World) (h : RdB w w.heap.size A n c) (hn : n ≤ 4096) : Calls Tryz.prog 11 #[.slice A n c] w (RetD2 w) := by
  obtain ⟨b, hbe⟩ : ∃ b, b = w.heap.size := ⟨_, rfl⟩
  obtain ⟨w0, hw0⟩ : ∃ w0, w0 = (w.alloc (.cells #[.slice none 0 0] 26)).alloc (.cells #[.slice none 0 0] 26) := ⟨_, rfl⟩
  obtain ⟨hF, hb0, hz0⟩ := start11 w 26 b w0 hbe hw0
  have F0 := Lib.hid hF
  have HZ := Lib.hid hz0
  have Hw := Lib.hid hw0
  have Hbe := Lib.hid hbe
  clear hw0 hbe hF hz0
  go_enter Tryz.func11, Tryz.ntmps11
  go_wp2_with fail
  rw [← Hw.out, ← Hbe.out]
  refine (from_any A n c w0 ((h.below hb0).mono hb0.size) hn).mono ?_
  rintro e w1 ⟨rfl, hs1, hb1⟩
  rw [HZ.out] at hs1 ⊢
  have hl1 := hs1.lt
  have HS1 := Lib.hid hs1
  have HB1 := Lib.hid hb1
  have Hb0 := Lib.hid hb0
  clear hs1 hb1 hb0
  go_wp2_with fail
  refine (some16_any (b + 2) w1 HS1.out).mono ?_
  rintro e w2 h2
  obtain ⟨A2, n2, c2, xss, rfl, ho2, hn2, ht2, hb2, hs2, hm2⟩ := h2.dl (Nat.le_refl _) (Nat.le_of_eq HZ.out) HB1.out hl1
  obtain ⟨w3, hw3⟩ : ∃ W, W = w2.alloc (.cells #[.slice A2 n2 c2] 26) := ⟨_, rfl⟩
  obtain ⟨q, hq⟩ : ∃ q, q = w2.heap.size := ⟨_, rfl⟩
  have hb3 : Below w2.heap.size w2 w3 := by rw [hw3]; exact (Below.refl _ _).alloc (Nat.le_refl _) _
  have hl3 : b + 2 < w3.heap.size := Nat.lt_of_lt_of_le hs2.lt hb3.size
  have HS3 := Lib.hid (hs2.ext hb3)
  have HB3 := Lib.hid (hb2.trans (hb3.mono hb2.size))
  have HO3 := Lib.hid ((ho2.mono (show b + 3 ≤ w1.heap.size from hl1) (Nat.le_refl _)).below hb3)
  have G3 := Lib.hid (show Cells [(q, 0, .slice A2 n2 c2)] w3 by rw [hw3]; exact Cells.alloc1' _ _ hq)
  have hq2 : b + 2 < q := by rw [hq]; exact hs2.lt
  have Hw3 := Lib.hid hw3
  have Hq := Lib.hid hq
  clear hs2 hb2 ho2 hm2 hw3 hb3 hq h2
  have g0 := G3.out.at_ (b := q) (o := 0) (V := .slice A2 n2 c2) (by simp)
  have HR3 := Lib.hid HO3.out.rd
  obtain ⟨t, ht⟩ : ∃ t, t = isLB xss := ⟨_, rfl⟩
  have HT := Lib.hid ht
  have HC := Lib.hid (l16Is_any A2 n2 c2 _ xss w3 HR3.out (by omega) (by omega))
  rw [← ht] at HC
  clear ht
  go_wp2_with fail
  rw [← Hw3.out, ← Hq.out]
  refine HC.out.mono ?_
  rintro e w4 ⟨rfl, k4, rfl⟩
  have hbd : Below w3.heap.size w3 (w3.drewN k4) := below_drewN (Below.refl _ _) k4
  have HS4 := Lib.hid (HS3.out.ext hbd)
  have HB4 := Lib.hid (HB3.out.trans (hbd.mono HB3.out.size))
  have HO4 := Lib.hid ((HO3.out.below hbd).mono (Nat.le_refl _) (show w2.heap.size ≤ (w3.drewN k4).heap.size by rw [Hw3.out]; simp [World.drewN]))
  have G4 := Lib.hid (G3.out.below hbd)
  have hl4 : b + 2 < (w3.drewN k4).heap.size := hl3
  obtain ⟨w4, hw4⟩ : ∃ W, W = w3.drewN k4 := ⟨_, rfl⟩
  rw [← hw4] at HS4 HB4 HO4 G4 hl4 ⊢
  clear hw4 hbd g0 HC HR3 HO3 G3 HS3 HB3
  have g0 := G4.out.at_ (b := q) (o := 0) (V := .slice A2 n2 c2) (by simp)
  have fin5 : ∀ (wx : World), Src wx (b + 2) → Below w0.heap.size w0 wx → Hid (OwnL wx (b + 3) wx.heap.size A2 n2 c2 xss) → Cells [(q, 0, .slice A2 n2 c2)] wx → b + 2 < wx.heap.size →
      ∀ (l : Nat) (e : Ending) (w6 : World), l ≤ 5 → RetLd (b + 2) l wx e w6 → ∃ (A : Option Addr) (n c : Nat) (yss : List (List Int)), e = .returned (.agg #[.slice A n c]) ∧ Cells [(b + 1, 0, .slice none 0 0), (b, 0, .slice none 0 0)] w6 ∧ Cells [(q, 0, .slice A2 n2 c2)] w6 ∧
        Hid (RetD2 w (.returned (.tuple #[.agg #[.slice A2 n2 c2], .agg #[.slice A n c]])) ((w6.setCell ⟨b, 0, none⟩ (.slice A2 n2 c2)).setCell ⟨b + 1, 0, none⟩ (.slice A n c))) := by
    intro wx hs hb ho hg hl l e w6 hl5 h6
    obtain ⟨A6, n6, c6, yss, rfl, ho6, hn6, ht6, hb6, hs6, hm6⟩ := h6.dl hl5 (Nat.le_of_eq HZ.out) hb hl
    have hz6 : b + 2 ≤ w6.heap.size := by have := hb6.size; rw [HZ.out] at this; exact this
    exact ⟨A6, n6, c6, yss, rfl, F0.out.below hb6, hg.mid hm6 (by simp; omega), Lib.hid (RetD2.fin Hbe.out hz6 ((ho.out.mid hm6 (by omega)).mono (by omega) hm6.size) (ho6.mono (by omega) (Nat.le_refl _)) hn2 ht2 hn6 ht6 (Hb0.out.trans (hb6.mono Hb0.out.size)))⟩
  have Fin5 := Lib.hid fin5
  clear fin5
  have hentS : ∀ args w, (callFunc 25 args).run Tryz.prog w = .ok (.enter 25 args) w := enters_of Tryz.func25 (by kernel_rfl) rfl
  cases t
  · skip
    go_wp2_with fail
    have hs5 := HS4.out.ext (below_drewN (Below.refl w4.heap.size w4) 1)
    have hsc := Lib.hid (some16_any (b + 2) (w4.drewN 1) hs5)
    have HF5 := Lib.hid (Fin5.out (w4.drewN 1) hs5 (below_drewN HB4.out 1) (Lib.hid (HO4.out.below (below_drewN (Below.refl w4.heap.size w4) 1))) (G4.out.drewN 1) hl4)
    clear hs5
    go_region_law
      (refine stepD1 25 (.tmp 38) #[42] rfl rfl hentS rfl hsc.out ?_
       rintro e w6 h6
       obtain ⟨A6, n6, c6, yss, rfl, hF6, hG6, hR6⟩ := HF5.out 5 e w6 (by decide) h6
       refine ⟨_, rfl, ?_⟩
       have q0 := hF6.at_ (b := b) (o := 0) (V := .slice none 0 0) (by simp)
       have f0 := hF6.fr (b := b) (o := 0) (V := .slice none 0 0) (by simp)
       have q1 := hF6.at_ (b := b + 1) (o := 0) (V := .slice none 0 0) (by simp)
       have f1 := hF6.fr (b := b + 1) (o := 0) (V := .slice none 0 0) (by simp)
       have g6 := hG6.at_ (b := q) (o := 0) (V := .slice A2 n2 c2) (by simp)
       have hres := Lib.hid (cells_end2 q0 q1 (.slice A2 n2 c2) (.slice A6 n6 c6))
       clear h6 hF6 hG6)
    all_goals
      go_wp2_with fail
      refine bodyPost_ret (v := .tuple #[.agg #[.slice A2 n2 c2], .agg #[.slice A6 n6 c6]]) (by simp [results, Tryz.results11, go_sem, hres.out.1, hres.out.2]) rfl ?_
      exact hR6.out
  · by_cases hn0 : 0 < n2
    · have hhd : ∀ x0, xss[0]? = some x0 → x0.length ≤ 7 ∧ 0 ≤ psT 0 x0 ∧ psT 0 x0 ≤ 11 := by
        intro x0 hx
        have hd : xss.headD [] = x0 := by
          match xss, hx with
          | y :: r, hx => simpa using hx
        have := isLB_head HT.out.symm
        rw [hd] at this
        exact this
      have hentT : ∀ args w, (callFunc 32 args).run Tryz.prog w = .ok (.enter 32 args) w := enters_of Tryz.func32 (by kernel_rfl) rfl
      have hentD : ∀ args w, (callFunc 43 args).run Tryz.prog w = .ok (.enter 43 args) w := enters_of Tryz.func43 (by kernel_rfl) rfl
      have Hhd := Lib.hid hhd
      clear hhd
      go_wp2_with fail
      refine (next_any (b + 2) 5 w4 HS4.out (by omega)).mono ?_
      rintro e w5 ⟨x, rfl, hx0, hx1, hs5, hm5, hz5⟩
      have hb5 : Below w0.heap.size w0 w5 := HB4.out.trans ((hm5.below (Nat.le_of_lt hl4)).mono (Nat.le_of_eq HZ.out))
      have HS5 := Lib.hid hs5
      have HB5 := Lib.hid hb5
      have HO5 := Lib.hid ((HO4.out.mid hm5 (Nat.le_refl _)).mono (Nat.le_refl _) hm5.size)
      have G5 := Lib.hid (G4.out.mid hm5 (by simp; omega))
      have hl5 : b + 2 < w5.heap.size := hs5.lt
      clear hs5 hb5 hm5 hz5 g0 HS4 HB4 HO4 G4 hl4
      have g0 := G5.out.at_ (b := q) (o := 0) (V := .slice A2 n2 c2) (by simp)
      by_cases hx : 0 < x
      · obtain ⟨ad, A3, n3, c3, x0, rfl, hbk, hxx, hcx, hr⟩ := HO5.out.rd.at_ hn0
        have hh := Hhd.out x0 hxx.out
        have hcx0 : w5.cell? ad = some (.slice A3 n3 c3) := by simpa [Addr.add] using hcx
        have hn3 : n3 ≤ 7 := by rw [← hr.len]; exact hh.1
        obtain ⟨st, hst⟩ : ∃ st, st = psT 0 x0 := ⟨_, rfl⟩
        rw [← hst] at hh
        have HSt := Lib.hid hst
        have HR5 := Lib.hid hr
        clear hcx hr hxx hst
        go_wp2_with fail
        have hs6 := HS5.out.ext (below_drewN (Below.refl w5.heap.size w5) 1)
        have HCs := Lib.hid (stem_any A3 n3 c3 _ x0 (w5.drewN 1) (HR5.out.drewN 1) (by omega))
        rw [← HSt.out] at HCs
        have HCd := Lib.hid (draw16_any (b + 2) n3 st (w5.drewN 1) hs6 (by omega) (by omega) (by omega))
        have HF5 := Lib.hid (Fin5.out (w5.drewN 1) hs6 (below_drewN HB5.out 1) (Lib.hid (HO5.out.below (below_drewN (Below.refl w5.heap.size w5) 1))) (G5.out.drewN 1) hl5)
        clear hs6
        have had : ad.block < w5.heap.size ∧ b + 3 ≤ ad.block := ⟨hbk, HO5.out.row ad.block rfl⟩
        go_region_held3 (fun w' => w'.cell? ⟨q, 0, none⟩ = some (.slice (some ad) n2 c2) ∧ w'.cell? ad = some (.slice A3 n3 c3)) (first | exact ⟨g0, hcx0⟩ | exact ⟨g6, x6⟩ | exact ⟨g7, x7⟩ | exact ⟨g8, x8⟩)
          (first
            | (go_at_call 32
               refine HCs.out.mono ?_
               rintro e w6 ⟨rfl, rfl⟩)
            | (go_at_call 43
               refine HCd.out.mono ?_
               rintro e w6 h6
               have hm6 : Mid (b + 2) (b + 3) w5 w6 := by
                 obtain ⟨_, _, _, _, _, _, _, _, _, hm⟩ := h6
                 exact (Mid.of_below (below_drewN (Below.refl w5.heap.size w5) 1)).trans hm
               obtain ⟨A6, n6, c6, yss, rfl, hF6, hG6, hR6⟩ := HF5.out 4 e w6 (by decide) h6
               have q0 := hF6.at_ (b := b) (o := 0) (V := .slice none 0 0) (by simp)
               have f0 := hF6.fr (b := b) (o := 0) (V := .slice none 0 0) (by simp)
               have q1 := hF6.at_ (b := b + 1) (o := 0) (V := .slice none 0 0) (by simp)
               have f1 := hF6.fr (b := b + 1) (o := 0) (V := .slice none 0 0) (by simp)
               have g6 := hG6.at_ (b := q) (o := 0) (V := .slice (some ad) n2 c2) (by simp)
               have x6 := cell_mid hm6 had.1 (.inr had.2) hcx0
               have hm7 : Mid b (b + 1) w6 (w6.setCell ⟨b, 0, none⟩ (.slice (some ad) n2 c2)) := mid_setCell (p := ⟨b, 0, none⟩) _ ⟨Nat.le_refl _, Nat.lt_succ_self _⟩
               have hm8 : Mid b (b + 2) w6 ((w6.setCell ⟨b, 0, none⟩ (.slice (some ad) n2 c2)).setCell ⟨b + 1, 0, none⟩ (.slice A6 n6 c6)) := (mid_setCell (B := b) (K := b + 2) (p := ⟨b, 0, none⟩) _ ⟨Nat.le_refl _, Nat.lt_add_of_pos_right (by decide)⟩).trans (mid_setCell (B := b) (K := b + 2) (p := ⟨b + 1, 0, none⟩) _ ⟨Nat.le_succ b, Nat.lt_succ_self _⟩)
               have hb6 := Nat.lt_of_lt_of_le had.1 hm6.size
               have g7 := (hG6.mid hm7 (by simp; omega)).at_ (b := q) (o := 0) (V := .slice (some ad) n2 c2) (by simp)
               have g8 := (hG6.mid hm8 (by simp; omega)).at_ (b := q) (o := 0) (V := .slice (some ad) n2 c2) (by simp)
               have x7 := cell_mid hm7 hb6 (.inr (by omega)) x6
               have x8 := cell_mid hm8 hb6 (.inr (by omega)) x6
               have hres := Lib.hid (cells_end2 q0 q1 (.slice (some ad) n2 c2) (.slice A6 n6 c6))
               clear h6 hF6 hG6 hm6 hm7 hm8))
        clear g0 g6 g7 g8 x6 x7 x8 hcx0
        go_wp2_with fail
        refine bodyPost_ret (v := .tuple #[.agg #[.slice (some ad) n2 c2], .agg #[.slice A6 n6 c6]]) (by simp [results, Tryz.results11, go_sem, hres.out.1, hres.out.2]) rfl ?_
        exact hR6.out
      · skip
        go_wp2_with fail
        have hs5 := HS5.out.ext (below_drewN (Below.refl w5.heap.size w5) 1)
        have hsc := Lib.hid (some16_any (b + 2) (w5.drewN 1) hs5)
        have HF5 := Lib.hid (Fin5.out (w5.drewN 1) hs5 (below_drewN HB5.out 1) (Lib.hid (HO5.out.below (below_drewN (Below.refl w5.heap.size w5) 1))) (G5.out.drewN 1) hl5)
        clear hs5
        go_region_law
          (refine stepD1 25 (.tmp 38) #[42] rfl rfl hentS rfl hsc.out ?_
           rintro e w6 h6
           obtain ⟨A6, n6, c6, yss, rfl, hF6, hG6, hR6⟩ := HF5.out 5 e w6 (by decide) h6
           refine ⟨_, rfl, ?_⟩
           have q0 := hF6.at_ (b := b) (o := 0) (V := .slice none 0 0) (by simp)
           have f0 := hF6.fr (b := b) (o := 0) (V := .slice none 0 0) (by simp)
           have q1 := hF6.at_ (b := b + 1) (o := 0) (V := .slice none 0 0) (by simp)
           have f1 := hF6.fr (b := b + 1) (o := 0) (V := .slice none 0 0) (by simp)
           have g6 := hG6.at_ (b := q) (o := 0) (V := .slice A2 n2 c2) (by simp)
           have hres := Lib.hid (cells_end2 q0 q1 (.slice A2 n2 c2) (.slice A6 n6 c6))
           clear h6 hF6 hG6)
        all_goals
          go_wp2_with fail
          refine bodyPost_ret (v := .tuple #[.agg #[.slice A2 n2 c2], .agg #[.slice A6 n6 c6]]) (by simp [results, Tryz.results11, go_sem, hres.out.1, hres.out.2]) rfl ?_
          exact hR6.out
    · obtain rfl : n2 = 0 := by omega
      skip
      go_wp2_with fail
      have hs5 := HS4.out.ext (below_drewN (Below.refl w4.heap.size w4) 1)
      have hsc := Lib.hid (some16_any (b + 2) (w4.drewN 1) hs5)
      have HF5 := Lib.hid (Fin5.out (w4.drewN 1) hs5 (below_drewN HB4.out 1) (Lib.hid (HO4.out.below (below_drewN (Below.refl w4.heap.size w4) 1))) (G4.out.drewN 1) hl4)
      clear hs5
      go_region_law
        (refine stepD1 25 (.tmp 38) #[42] rfl rfl hentS rfl hsc.out ?_
         rintro e w6 h6
         obtain ⟨A6, n6, c6, yss, rfl, hF6, hG6, hR6⟩ := HF5.out 5 e w6 (by decide) h6
         refine ⟨_, rfl, ?_⟩
         have q0 := hF6.at_ (b := b) (o := 0) (V := .slice none 0 0) (by simp)
         have f0 := hF6.fr (b := b) (o := 0) (V := .slice none 0 0) (by simp)
         have q1 := hF6.at_ (b := b + 1) (o := 0) (V := .slice none 0 0) (by simp)
         have f1 := hF6.fr (b := b + 1) (o := 0) (V := .slice none 0 0) (by simp)
         have g6 := hG6.at_ (b := q) (o := 0) (V := .slice A2 0 c2) (by simp)
         have hres := Lib.hid (cells_end2 q0 q1 (.slice A2 0 c2) (.slice A6 n6 c6))
         clear h6 hF6 hG6)
      all_goals
        go_wp2_with fail
        refine bodyPost_ret (v := .tuple #[.agg #[.slice A2 0 c2], .agg #[.slice A6 n6 c6]]) (by simp [results, Tryz.results11, go_sem, hres.out.1, hres.out.2]) rfl ?_
        exact hR6.out
end Go.Proofs.YtgmbbpaokcjnhaaGreatDoor
