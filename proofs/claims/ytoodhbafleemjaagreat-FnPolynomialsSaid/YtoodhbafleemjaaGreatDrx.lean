/- Draws for FnPolynomials. -/
import Derived.Test.YtoodhbafleemjaaGreatDrw
namespace Go.Proofs.YtoodhbafleemjaaGreat
open Go.RowKit
set_option linter.unusedVariables false

/-- two drawn polynomials -/
def RetPP (w : World) (e : Ending) (w' : World) : Prop :=
  ∃ (v : Int) (A : Option Addr) (n c : Nat) (xss : List (List Int)) (u : Int) (A' : Option Addr) (n' c' : Nat) (yss : List (List Int)), e = .returned (.tuple #[.agg #[.int .i64 v, .slice A n c], .agg #[.int .i64 u, .slice A' n' c']]) ∧
    OwnL w' w.heap.size w'.heap.size A n c xss ∧ OwnL w' w.heap.size w'.heap.size A' n' c' yss ∧ n ≤ 2000 ∧ totalL xss ≤ 8000 ∧ n' ≤ 2000 ∧ totalL yss ≤ 8000 ∧ Below w.heap.size w w'
theorem RetPP.fin {w wr w' : World} {b n c n' c' : Nat} {v u : Int} {A A' : Option Addr} {xss yss : List (List Int)} (hbe : b = w.heap.size) (hz : b + 2 ≤ wr.heap.size) (O : OwnL wr (b + 2) wr.heap.size A n c xss) (P : OwnL wr (b + 2) wr.heap.size A' n' c' yss)
    (hn : n ≤ 2000) (ht : totalL xss ≤ 8000) (hn' : n' ≤ 2000) (ht' : totalL yss ≤ 8000) (hb : Below w.heap.size w wr) (m : Mid b (b + 2) wr w') :
    RetPP w (.returned (.tuple #[.agg #[.int .i64 v, .slice A n c], .agg #[.int .i64 u, .slice A' n' c']])) w' :=
  ⟨v, A, n, c, xss, u, A', n', c', yss, rfl, (O.mid m (Nat.le_refl _)).mono (by omega) m.size, (P.mid m (Nat.le_refl _)).mono (by omega) m.size, hn, ht, hn', ht', hb.trans ((m.below (by omega)).mono (Nat.le_of_eq hbe.symm))⟩
theorem OwnL.fur {w w' : World} {B s n c : Nat} {A : Option Addr} {xss : List (List Int)} (h : OwnL w B w.heap.size A n c xss) (m : Mid s (s + 1) w w') (hK : s + 1 ≤ B) : OwnL w' B w'.heap.size A n c xss := (h.mid m hK).mono (Nat.le_refl _) m.size
theorem far2 {w : World} {bn b i : Nat} {X Y V : Value} (hne : bn ≠ b) (h : w.cell? ⟨b, i, none⟩ = some V) : ((w.setCell ⟨bn, 0, none⟩ X).setCell ⟨bn, 1, none⟩ Y).cell? ⟨b, i, none⟩ = some V := by
  rw [World.cell?_setCell_other, World.cell?_setCell_other]
  · exact h
  · simp; try omega
  · simp; try omega
theorem mid2 (b q : Nat) (w : World) (X Y : Value) (h1 : b ≤ q) (h2 : q < b + 2) : Mid b (b + 2) w ((w.setCell ⟨q, 0, none⟩ X).setCell ⟨q, 1, none⟩ Y) :=
  (mid_setCell (B := b) (K := b + 2) (p := ⟨q, 0, none⟩) X ⟨h1, h2⟩).trans (mid_setCell (B := b) (K := b + 2) (p := ⟨q, 1, none⟩) Y ⟨h1, h2⟩)
/-- two results' boxes are written last -/
theorem cells4 {w : World} {p q : Nat} {U0 U1 U2 U3 : Value} (hne : p ≠ q) (h0 : w.cell? ⟨p, 0, none⟩ = some U0) (h1 : w.cell? ⟨p, 1, none⟩ = some U1) (h2 : w.cell? ⟨q, 0, none⟩ = some U2) (h3 : w.cell? ⟨q, 1, none⟩ = some U3) (V0 V1 V2 V3 : Value) :
    ((((w.setCell ⟨p, 0, none⟩ V0).setCell ⟨p, 1, none⟩ V1).setCell ⟨q, 0, none⟩ V2).setCell ⟨q, 1, none⟩ V3).cell? ⟨p, 0, none⟩ = some V0 ∧ ((((w.setCell ⟨p, 0, none⟩ V0).setCell ⟨p, 1, none⟩ V1).setCell ⟨q, 0, none⟩ V2).setCell ⟨q, 1, none⟩ V3).cell? ⟨p, 1, none⟩ = some V1 ∧
    ((((w.setCell ⟨p, 0, none⟩ V0).setCell ⟨p, 1, none⟩ V1).setCell ⟨q, 0, none⟩ V2).setCell ⟨q, 1, none⟩ V3).cell? ⟨q, 0, none⟩ = some V2 ∧ ((((w.setCell ⟨p, 0, none⟩ V0).setCell ⟨p, 1, none⟩ V1).setCell ⟨q, 0, none⟩ V2).setCell ⟨q, 1, none⟩ V3).cell? ⟨q, 1, none⟩ = some V3 := by
  have e1 := cells_end h0 h1 V0 V1
  have e2 := cells_end (far2 hne h2 (X := V0) (Y := V1)) (far2 hne h3 (X := V0) (Y := V1)) V2 V3
  exact ⟨far2 (fun e => hne e.symm) e1.1, far2 (fun e => hne e.symm) e1.2, e2.1, e2.2⟩

set_option maxRecDepth 100000 in
set_option maxHeartbeats 2000000 in
theorem two08_any (A : Option Addr) (n c : Nat) (w : World) (h : RdB w w.heap.size A n c) (hn : n ≤ 4096) : Calls Tryz.prog 45 #[.slice A n c, .bool false] w (RetPP w) := by
  obtain ⟨w0, b, hw0, hbe, hb0, hz0, hF⟩ := start22 w (.int .i64 0) (.slice none 0 0) (.int .i64 0) (.slice none 0 0) 26 26
  have Hw := Lib.hid hw0; clear hw0
  have Hbe := Lib.hid hbe; clear hbe
  have F0 := Lib.hid hF; clear hF
  have HZ := Lib.hid hz0; clear hz0
  go_enter Tryz.func45, Tryz.ntmps45
  go_wp2_with fail
  rw [← Hw.out, ← Hbe.out]
  refine (from_any A n c w0 ((h.below hb0).mono hb0.size) hn).mono ?_
  rintro e w1 ⟨rfl, hs1, hb1⟩
  obtain ⟨s, hs⟩ : ∃ s, s = w0.heap.size := ⟨_, rfl⟩
  rw [← hs] at hs1 ⊢
  have hsb : b + 2 ≤ s := by rw [hs, HZ.out]; exact Nat.le_refl _
  have hsw : w.heap.size ≤ s := by rw [← Hbe.out]; omega
  replace F0 := Lib.hid (F0.out.below hb1)
  have HB := Lib.hid (hb0.trans (hb1.mono hb0.size))
  have HS := Lib.hid hs1
  clear hb0 hb1 hs1 hs
  go_wp2_with fail
  refine (next_any s 10 w1 HS.out (by omega)).mono ?_
  rintro e w2 ⟨x, rfl, xa, xb, hs1, hm1, hz1⟩
  have hl1 := HS.out.lt
  replace F0 := Lib.hid (F0.out.mid hm1 (by simp; omega))
  replace HB := Lib.hid (HB.out.trans ((hm1.below (by omega)).mono hsw))
  replace HS := Lib.hid hs1
  clear hs1 hm1 hz1 hl1
  by_cases hx : x = 0
  · subst hx
    go_wp2_with fail
    refine (spoil08_any s 40 w2 HS.out (by decide) (by decide)).mono ?_
    rintro e w3 ⟨v, k, hv0, hv5, hk1, hk4, A2, n2, c2, xss, rfl, ho, hp, hn2, hs1, hm1⟩
    have hl1 := HS.out.lt
    replace F0 := Lib.hid (F0.out.mid hm1 (by simp; omega))
    replace HB := Lib.hid (HB.out.trans ((hm1.below (by omega)).mono hsw))
    replace HS := Lib.hid hs1
    have HO1 := Lib.hid (show OwnL w3 (s + 1) w3.heap.size A2 n2 c2 xss from ho.mono (by omega) (Nat.le_refl _))
    have HT1 := Lib.hid (show totalL xss ≤ 24 by have := hp.tot hk4; rw [ho.len] at this; omega)
    clear hs1 hm1 hl1 ho hp hk1 hk4 hv0 hv5
    go_wp2_with fail
    refine (spoil08_any s 40 w3 HS.out (by decide) (by decide)).mono ?_
    rintro e w4 ⟨u, k, hv0, hv5, hk1, hk4, A3, n3, c3, yss, rfl, ho, hp, hn3, hs1, hm1⟩
    have hl1 := HS.out.lt
    replace F0 := Lib.hid (F0.out.mid hm1 (by simp; omega))
    replace HB := Lib.hid (HB.out.trans ((hm1.below (by omega)).mono hsw))
    replace HS := Lib.hid hs1
    replace HO1 := Lib.hid ((OwnL.fur HO1.out hm1 (Nat.le_refl _)).mono (show b + 2 ≤ s + 1 by omega) (Nat.le_refl _))
    have HO2 := Lib.hid (show OwnL w4 (b + 2) w4.heap.size A3 n3 c3 yss from ho.mono (by omega) (Nat.le_refl _))
    have HT2 := Lib.hid (show totalL yss ≤ 24 by have := hp.tot hk4; rw [ho.len] at this; omega)
    clear hs1 hm1 hl1 ho hp hk1 hk4 hv0 hv5
    have q0 := F0.out.at_ (b := b) (o := 0) (V := .int .i64 0) (by simp)
    have f0 := F0.out.fr (b := b) (o := 0) (V := .int .i64 0) (by simp)
    have q1 := F0.out.at_ (b := b) (o := 1) (V := .slice none 0 0) (by simp)
    have f1 := F0.out.fr (b := b) (o := 1) (V := .slice none 0 0) (by simp)
    have q2 := F0.out.at_ (b := b + 1) (o := 0) (V := .int .i64 0) (by simp)
    have f2 := F0.out.fr (b := b + 1) (o := 0) (V := .int .i64 0) (by simp)
    have q3 := F0.out.at_ (b := b + 1) (o := 1) (V := .slice none 0 0) (by simp)
    have f3 := F0.out.fr (b := b + 1) (o := 1) (V := .slice none 0 0) (by simp)
    have hne : b ≠ b + 1 := by omega
    have hres := cells4 hne q0 q1 q2 q3 (.int .i64 v) (.slice A2 n2 c2) (.int .i64 u) (.slice A3 n3 c3)
    have hz9 : b + 2 ≤ w4.heap.size := by have := HS.out.lt; omega
    have HFin := Lib.hid (RetPP.fin (v := v) (u := u) Hbe.out hz9 HO1.out HO2.out (by omega) (by have := HT1.out; omega) (by omega) (by have := HT2.out; omega) HB.out ((mid2 b b w4 (.int .i64 v) (.slice A2 n2 c2) (Nat.le_refl _) (by omega)).trans (mid2 b (b + 1) _ (.int .i64 u) (.slice A3 n3 c3) (by omega) (by omega))))
    go_wp2_with fail
    refine bodyPost_ret (v := .tuple #[.agg #[.int .i64 v, .slice A2 n2 c2], .agg #[.int .i64 u, .slice A3 n3 c3]]) (by simp [results, Tryz.results45, go_sem, hres.1, hres.2.1, hres.2.2.1, hres.2.2.2]) rfl ?_
    exact HFin.out
  · have hx2 : (x == 0) = false := by simpa using hx
    go_wp2_with fail
    refine (next_any s 4 w2 HS.out (by omega)).mono ?_
    rintro e w3 ⟨y, rfl, ya, yb, hs1, hm1, hz1⟩
    have hl1 := HS.out.lt
    replace F0 := Lib.hid (F0.out.mid hm1 (by simp; omega))
    replace HB := Lib.hid (HB.out.trans ((hm1.below (by omega)).mono hsw))
    replace HS := Lib.hid hs1
    clear hs1 hm1 hz1 hl1
    go_wp2_with fail
    refine (next_any s 12 w3 HS.out (by omega)).mono ?_
    rintro e w4 ⟨d, rfl, da, db, hs1, hm1, hz1⟩
    have hl1 := HS.out.lt
    replace F0 := Lib.hid (F0.out.mid hm1 (by simp; omega))
    replace HB := Lib.hid (HB.out.trans ((hm1.below (by omega)).mono hsw))
    replace HS := Lib.hid hs1
    clear hs1 hm1 hz1 hl1
    obtain ⟨k, hk⟩ : ∃ k : Nat, 1 + y = k := ⟨(1 + y).toNat, by omega⟩
    have hwk : IntKind.i64.wrap (1 + y) = k := by rw [IntKind.wrap_i64]; omega
    go_wp2_with fail
    refine (with08_any s k d w4 HS.out (by omega) (by omega) (by omega) (by omega)).mono ?_
    rintro e w5 ⟨A2, n2, c2, xss, rfl, ho, hp, hn2, hs1, hm1⟩
    have hl1 := HS.out.lt
    replace F0 := Lib.hid (F0.out.mid hm1 (by simp; omega))
    replace HB := Lib.hid (HB.out.trans ((hm1.below (by omega)).mono hsw))
    replace HS := Lib.hid hs1
    have HO1 := Lib.hid (show OwnL w5 (s + 1) w5.heap.size A2 n2 c2 xss from ho.mono (by omega) (Nat.le_refl _))
    have HT1 := Lib.hid (show totalL xss ≤ 20 by have := hp.tot (by omega); rw [ho.len] at this; omega)
    clear hs1 hm1 hl1 ho hp
    go_wp2_with fail
    refine (next_any s 12 w5 HS.out (by omega)).mono ?_
    rintro e w6 ⟨y1, rfl, y1a, y1b, hs1, hm1, hz1⟩
    have hl1 := HS.out.lt
    replace F0 := Lib.hid (F0.out.mid hm1 (by simp; omega))
    replace HB := Lib.hid (HB.out.trans ((hm1.below (by omega)).mono hsw))
    replace HS := Lib.hid hs1
    replace HO1 := Lib.hid (OwnL.fur HO1.out hm1 (Nat.le_refl _))
    clear hs1 hm1 hz1 hl1
    go_wp2_with fail
    refine (next_any s 32 w6 HS.out (by omega)).mono ?_
    rintro e w7 ⟨y2, rfl, y2a, y2b, hs1, hm1, hz1⟩
    have hl1 := HS.out.lt
    replace F0 := Lib.hid (F0.out.mid hm1 (by simp; omega))
    replace HB := Lib.hid (HB.out.trans ((hm1.below (by omega)).mono hsw))
    replace HS := Lib.hid hs1
    replace HO1 := Lib.hid (OwnL.fur HO1.out hm1 (Nat.le_refl _))
    clear hs1 hm1 hz1 hl1
    go_wp2_with fail
    refine (pickLit_any s [y1, y2] w7 HS.out (by simp) (by simp)).mono ?_
    rintro e w8 ⟨d2, rfl, hd2, hs1, hm1⟩
    have hl1 := HS.out.lt
    replace F0 := Lib.hid (F0.out.mid hm1 (by simp; omega))
    replace HB := Lib.hid (HB.out.trans ((hm1.below (by omega)).mono hsw))
    replace HS := Lib.hid hs1
    replace HO1 := Lib.hid (OwnL.fur HO1.out hm1 (Nat.le_refl _))
    have hd3 : 0 ≤ d2 ∧ d2 ≤ 32 := by
      simp only [List.mem_cons, List.not_mem_nil, or_false] at hd2
      omega
    clear hs1 hm1 hl1 hd2
    go_wp2_with fail
    refine (with08_any s k d2 w8 HS.out (by omega) (by omega) (by omega) (by omega)).mono ?_
    rintro e w9 ⟨A3, n3, c3, yss, rfl, ho, hp, hn3, hs1, hm1⟩
    have hl1 := HS.out.lt
    replace F0 := Lib.hid (F0.out.mid hm1 (by simp; omega))
    replace HB := Lib.hid (HB.out.trans ((hm1.below (by omega)).mono hsw))
    replace HS := Lib.hid hs1
    replace HO1 := Lib.hid (OwnL.fur HO1.out hm1 (Nat.le_refl _))
    have HO2 := Lib.hid (show OwnL w9 (b + 2) w9.heap.size A3 n3 c3 yss from ho.mono (by omega) (Nat.le_refl _))
    have HT2 := Lib.hid (show totalL yss ≤ 20 by have := hp.tot (by omega); rw [ho.len] at this; omega)
    replace HO1 := Lib.hid (HO1.out.mono (show b + 2 ≤ s + 1 by omega) (Nat.le_refl _))
    clear hs1 hm1 hl1 ho hp
    have q0 := F0.out.at_ (b := b) (o := 0) (V := .int .i64 0) (by simp)
    have f0 := F0.out.fr (b := b) (o := 0) (V := .int .i64 0) (by simp)
    have q1 := F0.out.at_ (b := b) (o := 1) (V := .slice none 0 0) (by simp)
    have f1 := F0.out.fr (b := b) (o := 1) (V := .slice none 0 0) (by simp)
    have q2 := F0.out.at_ (b := b + 1) (o := 0) (V := .int .i64 0) (by simp)
    have f2 := F0.out.fr (b := b + 1) (o := 0) (V := .int .i64 0) (by simp)
    have q3 := F0.out.at_ (b := b + 1) (o := 1) (V := .slice none 0 0) (by simp)
    have f3 := F0.out.fr (b := b + 1) (o := 1) (V := .slice none 0 0) (by simp)
    have hne : b ≠ b + 1 := by omega
    have hres := cells4 hne q0 q1 q2 q3 (.int .i64 k) (.slice A2 n2 c2) (.int .i64 k) (.slice A3 n3 c3)
    have hz9 : b + 2 ≤ w9.heap.size := by have := HS.out.lt; omega
    have HFin := Lib.hid (RetPP.fin (v := k) (u := k) Hbe.out hz9 HO1.out HO2.out (by omega) (by have := HT1.out; omega) (by omega) (by have := HT2.out; omega) HB.out ((mid2 b b w9 (.int .i64 k) (.slice A2 n2 c2) (Nat.le_refl _) (by omega)).trans (mid2 b (b + 1) _ (.int .i64 k) (.slice A3 n3 c3) (by omega) (by omega))))
    go_wp2_with fail
    refine bodyPost_ret (v := .tuple #[.agg #[.int .i64 k, .slice A2 n2 c2], .agg #[.int .i64 k, .slice A3 n3 c3]]) (by simp [results, Tryz.results45, go_sem, hres.1, hres.2.1, hres.2.2.1, hres.2.2.2]) rfl ?_
    exact HFin.out

set_option maxRecDepth 100000 in
set_option maxHeartbeats 2000000 in
theorem drawMultiplyPolys_any (A : Option Addr) (n c : Nat) (w : World) (h : RdB w w.heap.size A n c) (hn : n ≤ 4096) : Calls Tryz.prog 6 #[.slice A n c] w (RetPP w) := by
  obtain ⟨w0, b, hw0, hbe, hb0, hz0, hF⟩ := start22 w (.int .i64 0) (.slice none 0 0) (.int .i64 0) (.slice none 0 0) 26 26
  have Hw := Lib.hid hw0; clear hw0
  have Hbe := Lib.hid hbe; clear hbe
  have F0 := Lib.hid hF; clear hF
  have HZ := Lib.hid hz0; clear hz0
  go_enter Tryz.func6, Tryz.ntmps6
  go_wp2_with fail
  rw [← Hw.out, ← Hbe.out]
  refine (two08_any A n c w0 ((h.below hb0).mono hb0.size) hn).mono ?_
  rintro e w1 ⟨v, A1, n1, c1, xss, u, A2, n2, c2, yss, rfl, ho1, ho2, hn1, ht1, hn2, ht2, hb1⟩
  obtain ⟨q, hq⟩ : ∃ q, q = w1.heap.size := ⟨_, rfl⟩
  have HB := Lib.hid (hb0.trans (hb1.mono hb0.size))
  have hbq : b + 2 ≤ q := by rw [hq]; have := hb1.size; rw [HZ.out] at this; exact this
  have HO1 := Lib.hid (ho1.mono (show b + 2 ≤ w0.heap.size by rw [HZ.out]; exact Nat.le_refl _) (Nat.le_refl _))
  have HO2 := Lib.hid (ho2.mono (show b + 2 ≤ w0.heap.size by rw [HZ.out]; exact Nat.le_refl _) (Nat.le_refl _))
  replace F0 := Lib.hid (F0.out.below hb1)
  have HT1 := Lib.hid ht1
  have HT2 := Lib.hid ht2
  clear ho1 ho2 hb0 hb1 ht1 ht2
  go_wp2_with fail
  obtain ⟨w2, hw2⟩ : ∃ W, W = (w1.alloc (.cells #[.int .i64 v, .slice A1 n1 c1] 26)).alloc (.cells #[.int .i64 u, .slice A2 n2 c2] 26) := ⟨_, rfl⟩
  have hb2 : Below w1.heap.size w1 w2 := by rw [hw2]; exact ((Below.refl _ _).alloc (Nat.le_refl _) _).alloc (by simp) _
  have G0 := Lib.hid (show Cells [(q + 1, 0, .int .i64 u), (q + 1, 1, .slice A2 n2 c2), (q, 0, .int .i64 v), (q, 1, .slice A1 n1 c1)] w2 from by rw [hw2]; exact (Cells.nil.alloc2 (.int .i64 v) (.slice A1 n1 c1) 26 hq).alloc2 (.int .i64 u) (.slice A2 n2 c2) 26 (by simp [hq]))
  rw [← hw2, ← hq]
  have hz2 : b + 2 ≤ w2.heap.size := by have := hb2.size; omega
  have Od1 := Lib.hid ((HO1.out.below hb2).mono (Nat.le_refl _) hb2.size)
  have Od2 := Lib.hid ((HO2.out.below hb2).mono (Nat.le_refl _) hb2.size)
  have Bd := Lib.hid (show Below w.heap.size w w2 from HB.out.trans (hb2.mono HB.out.size))
  replace F0 := Lib.hid (F0.out.below hb2)
  obtain ⟨w3, hw3⟩ : ∃ W, W = w2.drewN 1 := ⟨_, rfl⟩
  have HZ3 : b + 2 ≤ w3.heap.size := by rw [hw3]; exact hz2
  have kk0 := G0.out.at_ (b := q) (o := 0) (V := .int .i64 v) (by simp)
  have kk1 := G0.out.at_ (b := q) (o := 1) (V := .slice A1 n1 c1) (by simp)
  have kk2 := G0.out.at_ (b := q + 1) (o := 0) (V := .int .i64 u) (by simp)
  have kk3 := G0.out.at_ (b := q + 1) (o := 1) (V := .slice A2 n2 c2) (by simp)
  have q0 := F0.out.at_ (b := b) (o := 0) (V := .int .i64 0) (by simp)
  have f0 := F0.out.fr (b := b) (o := 0) (V := .int .i64 0) (by simp)
  have q1 := F0.out.at_ (b := b) (o := 1) (V := .slice none 0 0) (by simp)
  have f1 := F0.out.fr (b := b) (o := 1) (V := .slice none 0 0) (by simp)
  have q2 := F0.out.at_ (b := b + 1) (o := 0) (V := .int .i64 0) (by simp)
  have f2 := F0.out.fr (b := b + 1) (o := 0) (V := .int .i64 0) (by simp)
  have q3 := F0.out.at_ (b := b + 1) (o := 1) (V := .slice none 0 0) (by simp)
  have f3 := F0.out.fr (b := b + 1) (o := 1) (V := .slice none 0 0) (by simp)
  have hne : b ≠ b + 1 := by omega
  have hn3 : q ≠ b := by omega
  have hn4 : q + 1 ≠ b := by omega
  have e0 : (w2.setCell ⟨b, 0, none⟩ (.int .i64 v)).cell? ⟨b, 0, none⟩ = some (.int .i64 v) := World.cell?_setCell_same _ _ _ (u := .int .i64 0) (by exact q0)
  have e1 : ((w2.setCell ⟨b, 0, none⟩ (.int .i64 v)).setCell ⟨b, 1, none⟩ (.slice A1 n1 c1)).cell? ⟨b, 1, none⟩ = some (.slice A1 n1 c1) := World.cell?_setCell_same _ _ _ (u := .slice none 0 0) (by rw [World.cell?_setCell_other]; exact q1; all_goals simp)
  have e2 : (((w2.setCell ⟨b, 0, none⟩ (.int .i64 v)).setCell ⟨b, 1, none⟩ (.slice A1 n1 c1)).setCell ⟨b + 1, 0, none⟩ (.int .i64 u)).cell? ⟨b + 1, 0, none⟩ = some (.int .i64 u) := World.cell?_setCell_same _ _ _ (u := .int .i64 0) (by rw [World.cell?_setCell_other, World.cell?_setCell_other]; exact q2; all_goals simp)
  have e3 : ((((w2.setCell ⟨b, 0, none⟩ (.int .i64 v)).setCell ⟨b, 1, none⟩ (.slice A1 n1 c1)).setCell ⟨b + 1, 0, none⟩ (.int .i64 u)).setCell ⟨b + 1, 1, none⟩ (.slice A2 n2 c2)).cell? ⟨b + 1, 1, none⟩ = some (.slice A2 n2 c2) := World.cell?_setCell_same _ _ _ (u := .slice none 0 0) (by rw [World.cell?_setCell_other, World.cell?_setCell_other, World.cell?_setCell_other]; exact q3; all_goals simp)
  have HFin := Lib.hid (show RetPP w _ (((((w2.setCell ⟨b, 0, none⟩ (.int .i64 v)).setCell ⟨b, 1, none⟩ (.slice A1 n1 c1)).setCell ⟨b + 1, 0, none⟩ (.int .i64 u)).setCell ⟨b + 1, 1, none⟩ (.slice A2 n2 c2)).drewN 1) from RetPP.fin (wr := w2) (v := v) (u := u) Hbe.out hz2 Od1.out Od2.out (by omega) (by have := HT1.out; omega) (by omega) (by have := HT2.out; omega) Bd.out (((mid2 b b w2 (.int .i64 v) (.slice A1 n1 c1) (Nat.le_refl _) (by omega)).trans (mid2 b (b + 1) _ (.int .i64 u) (.slice A2 n2 c2) (by omega) (by omega))).on (below_drewN (Below.refl _ _) 1)))
  clear hw3 HZ3 hw2 hb2 hq
  go_region
  all_goals
    go_wp2_with fail
    refine bodyPost_ret (v := .tuple #[.agg #[.int .i64 v, .slice A1 n1 c1], .agg #[.int .i64 u, .slice A2 n2 c2]]) (by simp [results, Tryz.results6, go_sem, e0, e1, e2, e3]) rfl ?_
    exact HFin.out
end Go.Proofs.YtoodhbafleemjaaGreat

/- Draws for FnPolynomials: DrawSubstituteForms. -/
namespace Go.Proofs.YtoodhbafleemjaaGreat
open Go.RowKit
set_option linter.unusedVariables false

/-- a drawn polynomial and integers -/
def RetPf (w : World) (e : Ending) (w' : World) : Prop :=
  ∃ (v : Int) (A : Option Addr) (n c : Nat) (xss : List (List Int)) (A' : Option Addr) (m d : Nat) (fs : List Int), e = .returned (.tuple #[.agg #[.int .i64 v, .slice A n c], .slice A' m d]) ∧ RdL w' w'.heap.size A n c xss ∧ n ≤ 2000 ∧ totalL xss ≤ 8000 ∧ RdS w' w'.heap.size A' m d fs ∧ m ≤ 2000 ∧ Below w.heap.size w w'
theorem RetPf.fin {w wr w' : World} {b n c m d K : Nat} {v : Int} {A A' : Option Addr} {xss : List (List Int)} {fs : List Int} (hbe : b = w.heap.size) (hz : b + 1 ≤ wr.heap.size) (O : OwnM wr (b + 1) K A n c xss) (hK : K ≤ wr.heap.size) (F : OwnS wr (b + 1) A' m d fs) (hn : n ≤ 2000) (ht : totalL xss ≤ 8000) (hm : m ≤ 2000) (hb : Below w.heap.size w wr) (h : Mid b (b + 1) wr w') :
    RetPf w (.returned (.tuple #[.agg #[.int .i64 v, .slice A n c], .slice A' m d])) w' :=
  ⟨v, A, n, c, xss, A', m, d, fs, rfl, (O.own.mid h (Nat.le_refl _)).rd, hn, ht, (F.mid h (Nat.le_refl _)).rd, hm, hb.trans ((h.below (by omega)).mono (Nat.le_of_eq hbe.symm))⟩
theorem off_row {w : World} {B n c q E : Nat} {A : Option Addr} {xs : List Int} (hO : OwnS w B A n c xs) (hk : KindOf w q E) (hE : E ≠ 2) : some q ≠ Value.ownBlock (.slice A n c) := by
  intro e
  obtain ⟨cs, h1⟩ := hO.kind q e.symm
  obtain ⟨cs2, h2⟩ := hk
  rw [h1] at h2
  injection h2 with h2
  injection h2 with _ h3
  exact hE h3.symm
theorem mid_row {w w' : World} {q : Nat} {row : Option Nat} (hg : w.grownBy w' row) (hq : some q ≠ row) : ∃ B K, Mid B K w w' ∧ (q < B ∨ K ≤ q) := by
  cases row with
  | none => exact ⟨0, 0, (Mid.refl 0 0 w).grown hg (fun g e => by cases e), .inr (Nat.zero_le _)⟩
  | some g => exact ⟨g, g + 1, (Mid.refl g (g + 1) w).grown hg (fun g' e => by injection e with e; omega), by
      have : q ≠ g := fun e => hq (by rw [e])
      omega⟩
theorem OwnM.belV {w w' : World} {B V n c : Nat} {A : Option Addr} {xss : List (List Int)} (h : OwnM w B V A n c xss) (hb : Below V w w') : OwnM w' B V A n c xss := h.same fun g _ h2 => hb.block g h2
theorem w64_lt (x : Int) : wrap64 x < 9223372036854775808 := by unfold wrap64; omega
set_option maxRecDepth 100000 in
set_option maxHeartbeats 2000000 in
theorem drawSubstituteForms_any (A : Option Addr) (n c : Nat) (w : World) (h : RdB w w.heap.size A n c) (hn : n ≤ 4096) : Calls Tryz.prog 19 #[.slice A n c] w (RetPf w) := by
  obtain ⟨w0, b, hw0, hbe, hb0, hz0, hF⟩ := start1 w (.int .i64 0) (.slice none 0 0) 26
  have Hw := Lib.hid hw0; clear hw0
  have Hbe := Lib.hid hbe; clear hbe
  have F0 := Lib.hid hF; clear hF
  have HZ := Lib.hid hz0; clear hz0
  go_enter Tryz.func19, Tryz.ntmps19
  go_wp2_with fail
  rw [← Hw.out, ← Hbe.out]
  refine (from_any A n c w0 ((h.below hb0).mono hb0.size) hn).mono ?_
  rintro e w1 ⟨rfl, hs1, hb1⟩
  obtain ⟨s, hs⟩ : ∃ s, s = w0.heap.size := ⟨_, rfl⟩
  rw [← hs] at hs1 ⊢
  have hsb : b + 1 ≤ s := by rw [hs, HZ.out]; exact Nat.le_refl _
  have hsw : w.heap.size ≤ s := by rw [← Hbe.out]; omega
  replace F0 := Lib.hid (F0.out.below hb1)
  have HB := Lib.hid (hb0.trans (hb1.mono hb0.size))
  have HS := Lib.hid hs1
  clear hb0 hb1 hs1 hs
  go_wp2_with fail
  refine (spoil08_any s 14 w1 HS.out (by decide) (by decide)).mono ?_
  rintro e w2 ⟨v, k, hv0, hv5, hk1, hk4, A2, n2, c2, xss, rfl, ho, hp, hn2, hs1, hm1⟩
  have hl1 := HS.out.lt
  replace F0 := Lib.hid (F0.out.mid hm1 (by simp; omega))
  replace HB := Lib.hid (HB.out.trans ((hm1.below (by omega)).mono hsw))
  replace HS := Lib.hid hs1
  have HO1 := Lib.hid (show OwnL w2 (s + 1) w2.heap.size A2 n2 c2 xss from ho.mono (by omega) (Nat.le_refl _))
  have HT1 := Lib.hid (show totalL xss ≤ 24 by have := hp.tot hk4; rw [ho.len] at this; omega)
  clear hs1 hm1 hl1 ho hp hk1 hk4
  obtain ⟨m0, rfl⟩ : ∃ m : Nat, v = m := ⟨v.toNat, by omega⟩
  have hm05 : m0 ≤ 5 := by omega
  have hmin : min (m0 : Int) 5 = m0 := by omega
  obtain ⟨p, hp⟩ : ∃ p, p = w2.heap.size := ⟨_, rfl⟩
  obtain ⟨w3, hw3⟩ : ∃ W, W = (w2.alloc (.cells #[] 2)).alloc (.cells #[.int .i64 m0, .slice A2 n2 c2] 26) := ⟨_, rfl⟩
  have hb3 : Below w2.heap.size w2 w3 := by rw [hw3]; exact ((Below.refl _ _).alloc (Nat.le_refl _) _).alloc (by simp) _
  have hz3 : w3.heap.size = p + 2 := by rw [hw3, hp]; simp
  have G0 := Lib.hid (show Cells [(p + 1, 0, .int .i64 m0), (p + 1, 1, .slice A2 n2 c2)] w3 from by rw [hw3]; exact Cells.nil.alloc2 (.int .i64 m0) (.slice A2 n2 c2) 26 (by simp [hp]))
  have HK := Lib.hid (show KindOf w3 (p + 1) 26 by rw [hw3]; exact kind_new (by simp [hp]))
  have hsp : s < p := by rw [hp]; exact HS.out.lt
  have HO := Lib.hid (((HO1.out.m (Nat.le_refl _)).below hb3).mono (Nat.le_refl _) (Nat.le_of_eq hp.symm))
  have HQ := Lib.hid (show OwnS w3 p (some ⟨p, 0, none⟩) 0 0 [] by rw [hw3, hp]; exact (own_empty w2 w2.heap.size (Nat.le_refl _)).alloc _)
  replace F0 := Lib.hid (F0.out.below hb3)
  replace HB := Lib.hid (HB.out.trans (hb3.mono HB.out.size))
  replace HS := Lib.hid (HS.out.ext hb3)
  have Hw3 := Lib.hid hw3
  have Hp := Lib.hid hp
  clear hw3 hb3 hp HO1 hv0 hv5
  have g0 := G0.out.at_ (b := p + 1) (o := 0) (V := .int .i64 m0) (by simp)
  go_wp2_with fail
  rw [← Hw3.out, ← Hp.out]
  clear g0
  go_loopw [6, 7] (fun a i wr => ∃ (m l c : Nat) (A : Option Addr) (fs : List Int), i = .int .i64 m ∧ a = .slice A l c ∧ m + l ≤ 5 ∧ Hid (Src wr s) ∧ Hid (OwnS wr p A l c fs) ∧ Hid (OwnM wr (s + 1) p A2 n2 c2 xss) ∧ Hid (Cells [(p + 1, 0, .int .i64 m0), (p + 1, 1, .slice A2 n2 c2)] wr) ∧ Hid (KindOf wr (p + 1) 26) ∧ Hid (Cells [(b, 0, .int .i64 0), (b, 1, .slice none 0 0)] wr) ∧ Hid (Below w.heap.size w wr)) (fun _ i _ => (intOf i).toNat)
  case atStart => exact ⟨m0, 0, _, _, [], rfl, rfl, by omega, HS, HQ, HO, G0, HK, F0, HB⟩
  case round =>
    clear HS HQ HO G0 HK F0 HB
    obtain ⟨m, l, c, A, fs, rfl, rfl, hml, HS, HQ, HO, G0, HK, F0, HB⟩ := hrel
    have g0 := G0.out.at_ (b := p + 1) (o := 0) (V := .int .i64 m0) (by simp)
    by_cases hlt : 0 < m
    · go_wp2_with fail
      refine (next_any s (wrap64 (2 ^ m0)) wr HS.out (w64_lt _)).mono ?_
      rintro e w5 ⟨y, rfl, hy0, hy1, hs5, hm5, hz5⟩
      replace HS := Lib.hid hs5
      replace F0 := Lib.hid (F0.out.mid hm5 (by simp; omega))
      replace HB := Lib.hid (HB.out.trans ((hm5.below (by have h1 := G0.out.lt (p + 1, 0, .int .i64 m0) (by simp); dsimp only at h1; omega)).mono (by omega)))
      replace G0 := Lib.hid (G0.out.mid hm5 (by simp; omega))
      replace HK := Lib.hid (HK.out.mid hm5 (by omega))
      replace HO := Lib.hid (HO.out.mid hm5 (Nat.le_refl _))
      replace HQ := Lib.hid (HQ.out.mid hm5 (by omega))
      have hz6 : p + 2 ≤ w5.heap.size := by have h1 := G0.out.lt (p + 1, 0, .int .i64 m0) (by simp); dsimp only at h1; omega
      have HSt := Lib.hid (show StS w5 p w5 A l c fs from ⟨HQ.out, Below.refl _ _, by omega⟩)
      clear hs5 hm5 hz5 hy0 hy1 g0
      have g0 := G0.out.at_ (b := p + 1) (o := 0) (V := .int .i64 m0) (by simp)
      go_wp2_with (at_builtin; refine wpList_pushI rfl (.tmp 20) (.tmp 28) rfl rfl rfl HSt.out (by omega) ?_)
      intro A6 c6 w6 hs6 hg6
      clear HSt
      replace HS := Lib.hid (HS.out.below (hs6.bel.mono (by omega)))
      replace F0 := Lib.hid (F0.out.belowB hs6.bel (by simp; omega))
      replace HO := Lib.hid (OwnM.belV HO.out hs6.bel)
      replace HB := Lib.hid (HB.out.trans (hs6.bel.mono (by omega)))
      obtain ⟨B6, K6, hm6, hq6⟩ := mid_row hg6 (off_row HQ.out HK.out (by decide))
      replace G0 := Lib.hid (G0.out.mid hm6 (by simp; omega))
      replace HK := Lib.hid (HK.out.mid hm6 hq6)
      replace HQ := Lib.hid hs6.own
      clear hs6 hg6 hm6 hq6 B6 K6
      go_wp2_with fail
      go_roundw
      case rel => exact ⟨m - 1, l + 1, c6, A6, _, by go_num, rfl, by omega, HS, HQ, HO, G0, HK, F0, HB⟩
      case measure => simp [intOf]; omega
    · obtain rfl : m = 0 := by omega
      by_cases hl0 : 0 < l
      · have hz6 : p + 2 ≤ wr.heap.size := by have h1 := G0.out.lt (p + 1, 0, .int .i64 m0) (by simp); dsimp only at h1; omega
        go_wp2_with fail
        refine (next_any s 20 wr HS.out (by omega)).mono ?_
        rintro e w5 ⟨x, rfl, hx0, hx1, hs5, hm5, hz5⟩
        replace HS := Lib.hid hs5
        replace F0 := Lib.hid (F0.out.mid hm5 (by simp; omega))
        replace HB := Lib.hid (HB.out.trans ((hm5.below (by have h1 := G0.out.lt (p + 1, 0, .int .i64 m0) (by simp); dsimp only at h1; omega)).mono (by omega)))
        replace G0 := Lib.hid (G0.out.mid hm5 (by simp; omega))
        replace HK := Lib.hid (HK.out.mid hm5 (by omega))
        replace HO := Lib.hid (HO.out.mid hm5 (Nat.le_refl _))
        replace HQ := Lib.hid (HQ.out.mid hm5 (by omega))
        replace hz6 : p + 2 ≤ w5.heap.size := by have h1 := G0.out.lt (p + 1, 0, .int .i64 m0) (by simp); dsimp only at h1; omega
        clear hs5 hm5 hz5 g0
        by_cases hxa : x = 0
        · subst hxa
          have g0 := G0.out.at_ (b := p + 1) (o := 0) (V := .int .i64 m0) (by simp)
          go_wp2_with fail
          refine (pickLit_any s [-1, 16] w5 HS.out (by simp) (by simp)).mono ?_
          rintro e w7 ⟨v, rfl, hv, hs5, hm5⟩
          replace HS := Lib.hid hs5
          replace F0 := Lib.hid (F0.out.mid hm5 (by simp; omega))
          replace HB := Lib.hid (HB.out.trans ((hm5.below (by omega)).mono (by omega)))
          replace G0 := Lib.hid (G0.out.mid hm5 (by simp; omega))
          replace HK := Lib.hid (HK.out.mid hm5 (by omega))
          replace HO := Lib.hid (HO.out.mid hm5 (Nat.le_refl _))
          replace HQ := Lib.hid (HQ.out.mid hm5 (by omega))
          clear hs5 hm5 hv g0
          obtain ⟨g, x0, rfl, hgp, hgz, hx, hc, hf, hset⟩ := HQ.out.at_ hl0
          obtain ⟨hset1, hset2⟩ := hset v
          obtain ⟨w8, hw8⟩ : ∃ W, W = w7.setCell ⟨g, 0, none⟩ (.int .i64 v) := ⟨_, rfl⟩
          rw [← hw8] at hset1 hset2
          have hb8 : Below p w7 w8 := by rw [hw8]; exact (Below.refl p w7).setCell (p := ⟨g, 0, none⟩) hgp _
          obtain ⟨B6, K6, hm6, hq6⟩ := mid_row hset2 (off_row HQ.out HK.out (by decide))
          replace HS := Lib.hid (HS.out.below (hb8.mono (by omega)))
          replace F0 := Lib.hid (F0.out.belowB hb8 (by simp; omega))
          replace HO := Lib.hid (OwnM.belV HO.out hb8)
          replace HB := Lib.hid (HB.out.trans (hb8.mono (by omega)))
          replace G0 := Lib.hid (G0.out.mid hm6 (by simp; omega))
          replace HK := Lib.hid (HK.out.mid hm6 hq6)
          replace HQ := Lib.hid hset1
          clear hset1 hset2 hset hx hm6 hq6 B6 K6 hb8
          subst hw8
          have g0 := G0.out.at_ (b := p + 1) (o := 0) (V := .int .i64 m0) (by simp)
          have g1 := G0.out.at_ (b := p + 1) (o := 1) (V := .slice A2 n2 c2) (by simp)
          have q0 := F0.out.at_ (b := b) (o := 0) (V := .int .i64 0) (by simp)
          have q1 := F0.out.at_ (b := b) (o := 1) (V := .slice none 0 0) (by simp)
          have f0 := F0.out.fr (b := b) (o := 0) (V := .int .i64 0) (by simp)
          have f1 := F0.out.fr (b := b) (o := 1) (V := .slice none 0 0) (by simp)
          have hpb : p + 1 ≠ b := by omega
          have hzz : b + 1 ≤ (w7.setCell ⟨g, 0, none⟩ (.int .i64 v)).heap.size := by have h1 := G0.out.lt (p + 1, 0, .int .i64 m0) (by simp); dsimp only at h1; omega
          have hpz : p ≤ (w7.setCell ⟨g, 0, none⟩ (.int .i64 v)).heap.size := by have h1 := G0.out.lt (p + 1, 0, .int .i64 m0) (by simp); dsimp only at h1; omega
          have hres := cells_end q0 q1 (.int .i64 m0) (.slice A2 n2 c2)
          have HFin := Lib.hid (show RetPf w _ ((((w7.setCell ⟨g, 0, none⟩ (.int .i64 v)).setCell ⟨b, 0, none⟩ (.int .i64 m0)).setCell ⟨b, 1, none⟩ (.slice A2 n2 c2))) from RetPf.fin (v := m0) Hbe.out hzz (HO.out.mono (by omega) (Nat.le_refl _)) hpz (HQ.out.mono (by omega)) (by omega) (by have := HT1.out; omega) (by omega) HB.out ((mid_setCell (p := ⟨b, 0, none⟩) (.int .i64 m0) ⟨Nat.le_refl _, Nat.lt_succ_self _⟩).trans (mid_setCell (B := b) (K := b + 1) (p := ⟨b, 1, none⟩) (.slice A2 n2 c2) ⟨Nat.le_refl _, Nat.lt_succ_self _⟩)))
          go_wp2_with fail
          refine bodyPost_ret (v := .tuple #[.agg #[.int .i64 m0, .slice A2 n2 c2], .slice (some ⟨g, 0, none⟩) l c]) (by simp [results, Tryz.results19, go_sem, hres.1, hres.2]) rfl ?_
          exact HFin.out
        · have hxa2 : (x == 0) = false := by simpa using hxa
          by_cases hxb : x = 1
          · subst hxb
            have HSt := Lib.hid (show StS w5 p w5 A l c fs from ⟨HQ.out, Below.refl _ _, by omega⟩)
            go_wp2_with (at_builtin; refine wpList_pushI rfl (.tmp 44) (.tmp 45) rfl rfl rfl HSt.out (by omega) ?_)
            intro A6 c6 w6 hs6 hg6
            clear HSt
            replace HS := Lib.hid (HS.out.below (hs6.bel.mono (by omega)))
            replace F0 := Lib.hid (F0.out.belowB hs6.bel (by simp; omega))
            replace HO := Lib.hid (OwnM.belV HO.out hs6.bel)
            replace HB := Lib.hid (HB.out.trans (hs6.bel.mono (by omega)))
            obtain ⟨B6, K6, hm6, hq6⟩ := mid_row hg6 (off_row HQ.out HK.out (by decide))
            replace G0 := Lib.hid (G0.out.mid hm6 (by simp; omega))
            replace HK := Lib.hid (HK.out.mid hm6 hq6)
            replace HQ := Lib.hid hs6.own
            clear hs6 hg6 hm6 hq6 B6 K6
            have g0 := G0.out.at_ (b := p + 1) (o := 0) (V := .int .i64 m0) (by simp)
            have g1 := G0.out.at_ (b := p + 1) (o := 1) (V := .slice A2 n2 c2) (by simp)
            have q0 := F0.out.at_ (b := b) (o := 0) (V := .int .i64 0) (by simp)
            have q1 := F0.out.at_ (b := b) (o := 1) (V := .slice none 0 0) (by simp)
            have f0 := F0.out.fr (b := b) (o := 0) (V := .int .i64 0) (by simp)
            have f1 := F0.out.fr (b := b) (o := 1) (V := .slice none 0 0) (by simp)
            have hpb : p + 1 ≠ b := by omega
            have hzz : b + 1 ≤ w6.heap.size := by have h1 := G0.out.lt (p + 1, 0, .int .i64 m0) (by simp); dsimp only at h1; omega
            have hpz : p ≤ w6.heap.size := by have h1 := G0.out.lt (p + 1, 0, .int .i64 m0) (by simp); dsimp only at h1; omega
            have hres := cells_end q0 q1 (.int .i64 m0) (.slice A2 n2 c2)
            have HFin := Lib.hid (show RetPf w _ (((w6.setCell ⟨b, 0, none⟩ (.int .i64 m0)).setCell ⟨b, 1, none⟩ (.slice A2 n2 c2))) from RetPf.fin (v := m0) Hbe.out hzz (HO.out.mono (by omega) (Nat.le_refl _)) hpz (HQ.out.mono (by omega)) (by omega) (by have := HT1.out; omega) (by omega) HB.out ((mid_setCell (p := ⟨b, 0, none⟩) (.int .i64 m0) ⟨Nat.le_refl _, Nat.lt_succ_self _⟩).trans (mid_setCell (B := b) (K := b + 1) (p := ⟨b, 1, none⟩) (.slice A2 n2 c2) ⟨Nat.le_refl _, Nat.lt_succ_self _⟩)))
            go_wp2_with fail
            refine bodyPost_ret (v := .tuple #[.agg #[.int .i64 m0, .slice A2 n2 c2], .slice A6 (l + 1) c6]) (by simp [results, Tryz.results19, go_sem, hres.1, hres.2]) rfl ?_
            exact HFin.out
          · have hxb2 : (x == 1) = false := by simpa using hxb
            have g0 := G0.out.at_ (b := p + 1) (o := 0) (V := .int .i64 m0) (by simp)
            have g1 := G0.out.at_ (b := p + 1) (o := 1) (V := .slice A2 n2 c2) (by simp)
            have q0 := F0.out.at_ (b := b) (o := 0) (V := .int .i64 0) (by simp)
            have q1 := F0.out.at_ (b := b) (o := 1) (V := .slice none 0 0) (by simp)
            have f0 := F0.out.fr (b := b) (o := 0) (V := .int .i64 0) (by simp)
            have f1 := F0.out.fr (b := b) (o := 1) (V := .slice none 0 0) (by simp)
            have hpb : p + 1 ≠ b := by omega
            have hzz : b + 1 ≤ w5.heap.size := by have h1 := G0.out.lt (p + 1, 0, .int .i64 m0) (by simp); dsimp only at h1; omega
            have hpz : p ≤ w5.heap.size := by have h1 := G0.out.lt (p + 1, 0, .int .i64 m0) (by simp); dsimp only at h1; omega
            have hres := cells_end q0 q1 (.int .i64 m0) (.slice A2 n2 c2)
            have HFin := Lib.hid (show RetPf w _ (((w5.setCell ⟨b, 0, none⟩ (.int .i64 m0)).setCell ⟨b, 1, none⟩ (.slice A2 n2 c2))) from RetPf.fin (v := m0) Hbe.out hzz (HO.out.mono (by omega) (Nat.le_refl _)) hpz (HQ.out.mono (by omega)) (by omega) (by have := HT1.out; omega) (by omega) HB.out ((mid_setCell (p := ⟨b, 0, none⟩) (.int .i64 m0) ⟨Nat.le_refl _, Nat.lt_succ_self _⟩).trans (mid_setCell (B := b) (K := b + 1) (p := ⟨b, 1, none⟩) (.slice A2 n2 c2) ⟨Nat.le_refl _, Nat.lt_succ_self _⟩)))
            go_wp2_with fail
            refine bodyPost_ret (v := .tuple #[.agg #[.int .i64 m0, .slice A2 n2 c2], .slice A l c]) (by simp [results, Tryz.results19, go_sem, hres.1, hres.2]) rfl ?_
            exact HFin.out
      · obtain rfl : l = 0 := by omega
        have g0 := G0.out.at_ (b := p + 1) (o := 0) (V := .int .i64 m0) (by simp)
        have g1 := G0.out.at_ (b := p + 1) (o := 1) (V := .slice A2 n2 c2) (by simp)
        have q0 := F0.out.at_ (b := b) (o := 0) (V := .int .i64 0) (by simp)
        have q1 := F0.out.at_ (b := b) (o := 1) (V := .slice none 0 0) (by simp)
        have f0 := F0.out.fr (b := b) (o := 0) (V := .int .i64 0) (by simp)
        have f1 := F0.out.fr (b := b) (o := 1) (V := .slice none 0 0) (by simp)
        have hpb : p + 1 ≠ b := by omega
        have hzz : b + 1 ≤ wr.heap.size := by have h1 := G0.out.lt (p + 1, 0, .int .i64 m0) (by simp); dsimp only at h1; omega
        have hpz : p ≤ wr.heap.size := by have h1 := G0.out.lt (p + 1, 0, .int .i64 m0) (by simp); dsimp only at h1; omega
        have hres := cells_end q0 q1 (.int .i64 m0) (.slice A2 n2 c2)
        have HFin := Lib.hid (show RetPf w _ (((wr.setCell ⟨b, 0, none⟩ (.int .i64 m0)).setCell ⟨b, 1, none⟩ (.slice A2 n2 c2))) from RetPf.fin (v := m0) Hbe.out hzz (HO.out.mono (by omega) (Nat.le_refl _)) hpz (HQ.out.mono (by omega)) (by omega) (by have := HT1.out; omega) (by omega) HB.out ((mid_setCell (p := ⟨b, 0, none⟩) (.int .i64 m0) ⟨Nat.le_refl _, Nat.lt_succ_self _⟩).trans (mid_setCell (B := b) (K := b + 1) (p := ⟨b, 1, none⟩) (.slice A2 n2 c2) ⟨Nat.le_refl _, Nat.lt_succ_self _⟩)))
        go_wp2_with fail
        refine bodyPost_ret (v := .tuple #[.agg #[.int .i64 m0, .slice A2 n2 c2], .slice A 0 c]) (by simp [results, Tryz.results19, go_sem, hres.1, hres.2]) rfl ?_
        exact HFin.out
end Go.Proofs.YtoodhbafleemjaaGreat

/- Draws for FnPolynomials: l01Near, DrawTotalSquare, DrawSquareOn. -/
namespace Go.Proofs.YtoodhbafleemjaaGreat
open Go.RowKit
set_option linter.unusedVariables false

/-- some number is drawn -/
def RetNr (s : Nat) (w : World) (e : Ending) (w' : World) : Prop := ∃ x, e = .returned (.int .i64 x) ∧ Src w' s ∧ Mid s (s + 1) w w'
set_option maxRecDepth 100000 in
theorem near40_any (s : Nat) (w : World) (h : Src w s) : Calls Tryz.prog 71 #[.pointer (some ⟨s, 0, none⟩), .int .i64 40] w (RetNr s w) := by
  obtain ⟨R, hR⟩ : ∃ R, R = RetNr s w := ⟨_, rfl⟩
  have HR := Lib.hid hR
  rw [← hR]
  clear hR
  have HS := Lib.hid h
  clear h
  go_enter Tryz.func71, Tryz.ntmps71
  go_wp2_with fail
  refine (next_any s 14 w HS.out (by omega)).mono ?_
  rintro e w1 ⟨x, rfl, hx0, hx1, hs1, hm1, hz1⟩
  have HS1 := Lib.hid hs1
  have HM1 := Lib.hid hm1
  clear hs1 hm1 hz1
  by_cases hx : x = 0
  · subst hx
    go_wp2_with fail
    refine (pickLit_any s [-1, 41, 1125899906842624, -4611686018427387904] w1 HS1.out (by simp) (by simp)).mono ?_
    rintro e w2 ⟨y, rfl, hy, hs2, hm2⟩
    have HF := Lib.hid (show RetNr s w _ _ from ⟨y, rfl, hs2, HM1.out.trans hm2⟩)
    clear hs2 hm2 hy
    go_wp2_with fail
    rw [HR.out]
    exact HF.out
  · have hx2 : (x == 0) = false := by simpa using hx
    go_wp2_with fail
    refine (next_any s 41 w1 HS1.out (by omega)).mono ?_
    rintro e w2 ⟨y, rfl, hy0, hy1, hs2, hm2, hz2⟩
    have HF := Lib.hid (show RetNr s w _ _ from ⟨y, rfl, hs2, HM1.out.trans hm2⟩)
    clear hs2 hm2 hy0 hy1 hz2
    go_wp2_with fail
    rw [HR.out]
    exact HF.out

set_option maxRecDepth 100000 in
theorem drawTotalSquare_any (A : Option Addr) (n c : Nat) (w : World) (h : RdB w w.heap.size A n c) (hn : n ≤ 4096) : Calls Tryz.prog 22 #[.slice A n c] w (RetDP w) := by
  obtain ⟨w0, b, hw0, hbe, hb0, hz0, hF⟩ := start1 w (.int .i64 0) (.slice none 0 0) 26
  have Hw := Lib.hid hw0; clear hw0
  have Hbe := Lib.hid hbe; clear hbe
  have F0 := Lib.hid hF; clear hF
  have HZ := Lib.hid hz0; clear hz0
  go_enter Tryz.func22, Tryz.ntmps22
  go_wp2_with fail
  rw [← Hw.out, ← Hbe.out]
  refine (from_any A n c w0 ((h.below hb0).mono hb0.size) hn).mono ?_
  rintro e w1 ⟨rfl, hs1, hb1⟩
  obtain ⟨s, hs⟩ : ∃ s, s = w0.heap.size := ⟨_, rfl⟩
  rw [← hs] at hs1 ⊢
  have hsb : b + 1 ≤ s := by rw [hs, HZ.out]; exact Nat.le_refl _
  have hsw : w.heap.size ≤ s := by rw [← Hbe.out]; omega
  replace F0 := Lib.hid (F0.out.below hb1)
  have HB := Lib.hid (hb0.trans (hb1.mono hb0.size))
  have HS := Lib.hid hs1
  clear hb0 hb1 hs1 hs
  go_wp2_with fail
  refine (pickLit_any s [10, 20, 22] w1 HS.out (by simp) (by simp)).mono ?_
  rintro e w2 ⟨d, rfl, hd, hs1, hm1⟩
  have hl1 := HS.out.lt
  replace F0 := Lib.hid (F0.out.mid hm1 (by simp; omega))
  replace HB := Lib.hid (HB.out.trans ((hm1.below (by omega)).mono hsw))
  replace HS := Lib.hid hs1
  have hd2 : 0 ≤ d ∧ d ≤ 22 := by
    simp only [List.mem_cons, List.not_mem_nil, or_false] at hd
    omega
  clear hs1 hm1 hl1 hd
  go_wp2_with fail
  refine (spoil08_any s d w2 HS.out hd2.1 (by omega)).mono ?_
  rintro e w3 ⟨v, k, hv0, hv5, hk1, hk4, A2, n2, c2, xss, rfl, ho, hp, hn2, hs1, hm1⟩
  have hl1 := HS.out.lt
  replace F0 := Lib.hid (F0.out.mid hm1 (by simp; omega))
  replace HB := Lib.hid (HB.out.trans ((hm1.below (by omega)).mono hsw))
  replace HS := Lib.hid hs1
  have HO1 := Lib.hid (show OwnL w3 (b + 1) w3.heap.size A2 n2 c2 xss from ho.mono (by omega) (Nat.le_refl _))
  have HT1 := Lib.hid (show totalL xss ≤ 24 by have := hp.tot hk4; rw [ho.len] at this; omega)
  clear hs1 hm1 hl1 ho hp hk1 hk4 hv0 hv5
  have q0 := F0.out.at_ (b := b) (o := 0) (V := .int .i64 0) (by simp)
  have q1 := F0.out.at_ (b := b) (o := 1) (V := .slice none 0 0) (by simp)
  have f0 := F0.out.fr (b := b) (o := 0) (V := .int .i64 0) (by simp)
  have f1 := F0.out.fr (b := b) (o := 1) (V := .slice none 0 0) (by simp)
  have hres := cells_end q0 q1 (.int .i64 v) (.slice A2 n2 c2)
  have HZ4 := Lib.hid (show b + 1 ≤ w3.heap.size by have := HS.out.lt; omega)
  have ht := HT1.out
  have HFin := Lib.hid (RetDP.fin (v := v) (X := .int .i64 v) (Y := .slice A2 n2 c2) Hbe.out HZ4.out HO1.out (by omega) (by omega) HB.out)
  go_wp2_with fail
  refine bodyPost_ret (v := .agg #[.int .i64 v, .slice A2 n2 c2]) (by simp [results, Tryz.results22, go_sem, hres.1, hres.2]) rfl ?_
  exact HFin.out

/-- a drawn polynomial and a number -/
def RetPn (w : World) (e : Ending) (w' : World) : Prop :=
  ∃ (v : Int) (A : Option Addr) (n c : Nat) (xss : List (List Int)) (i : Int), e = .returned (.tuple #[.agg #[.int .i64 v, .slice A n c], .int .i64 i]) ∧ RdL w' w'.heap.size A n c xss ∧ n ≤ 2000 ∧ totalL xss ≤ 8000 ∧ Below w.heap.size w w'
theorem RetPn.fin {w wr w' : World} {b n c : Nat} {v i : Int} {A : Option Addr} {xss : List (List Int)} (hbe : b = w.heap.size) (hz : b + 1 ≤ wr.heap.size) (O : OwnL wr (b + 1) wr.heap.size A n c xss) (hn : n ≤ 2000) (ht : totalL xss ≤ 8000) (hb : Below w.heap.size w wr) (m : Mid b (b + 1) wr w') :
    RetPn w (.returned (.tuple #[.agg #[.int .i64 v, .slice A n c], .int .i64 i])) w' :=
  ⟨v, A, n, c, xss, i, rfl, (O.mid m (Nat.le_refl _)).rd, hn, ht, hb.trans ((m.below (by omega)).mono (Nat.le_of_eq hbe.symm))⟩
set_option maxRecDepth 100000 in
set_option maxHeartbeats 2000000 in
theorem drawSquareOn_any (A : Option Addr) (n c : Nat) (w : World) (h : RdB w w.heap.size A n c) (hn : n ≤ 4096) : Calls Tryz.prog 16 #[.slice A n c] w (RetPn w) := by
  obtain ⟨w0, b, hw0, hbe, hb0, hz0, hF⟩ := start1 w (.int .i64 0) (.slice none 0 0) 26
  have Hw := Lib.hid hw0; clear hw0
  have Hbe := Lib.hid hbe; clear hbe
  have F0 := Lib.hid hF; clear hF
  have HZ := Lib.hid hz0; clear hz0
  go_enter Tryz.func16, Tryz.ntmps16
  go_wp2_with fail
  rw [← Hw.out, ← Hbe.out]
  refine (from_any A n c w0 ((h.below hb0).mono hb0.size) hn).mono ?_
  rintro e w1 ⟨rfl, hs1, hb1⟩
  obtain ⟨s, hs⟩ : ∃ s, s = w0.heap.size := ⟨_, rfl⟩
  rw [← hs] at hs1 ⊢
  have hsb : b + 1 ≤ s := by rw [hs, HZ.out]; exact Nat.le_refl _
  have hsw : w.heap.size ≤ s := by rw [← Hbe.out]; omega
  replace F0 := Lib.hid (F0.out.below hb1)
  have HB := Lib.hid (hb0.trans (hb1.mono hb0.size))
  have HS := Lib.hid hs1
  clear hb0 hb1 hs1 hs
  go_wp2_with fail
  refine (spoil08_any s 24 w1 HS.out (by decide) (by decide)).mono ?_
  rintro e w2 ⟨v, k, hv0, hv5, hk1, hk4, A2, n2, c2, xss, rfl, ho, hp, hn2, hs1, hm1⟩
  have hl1 := HS.out.lt
  replace F0 := Lib.hid (F0.out.mid hm1 (by simp; omega))
  replace HB := Lib.hid (HB.out.trans ((hm1.below (by omega)).mono hsw))
  replace HS := Lib.hid hs1
  have HO1 := Lib.hid (show OwnL w2 (s + 1) w2.heap.size A2 n2 c2 xss from ho.mono (by omega) (Nat.le_refl _))
  have HT1 := Lib.hid (show totalL xss ≤ 24 by have := hp.tot hk4; rw [ho.len] at this; omega)
  clear hs1 hm1 hl1 ho hp hk1 hk4 hv0 hv5
  obtain ⟨q, hq⟩ : ∃ q, q = w2.heap.size := ⟨_, rfl⟩
  go_wp2_with fail
  obtain ⟨w3, hw3⟩ : ∃ W, W = w2.alloc (.cells #[.int .i64 v, .slice A2 n2 c2] 26) := ⟨_, rfl⟩
  have hb3 : Below w2.heap.size w2 w3 := by rw [hw3]; exact (Below.refl _ _).alloc (Nat.le_refl _) _
  have G0 := Lib.hid (show Cells [(q, 0, .int .i64 v), (q, 1, .slice A2 n2 c2)] w3 from by rw [hw3]; exact Cells.nil.alloc2 (.int .i64 v) (.slice A2 n2 c2) 26 hq)
  have hsq : s < q := by rw [hq]; exact HS.out.lt
  have O3 := Lib.hid (((HO1.out.below hb3).mono (Nat.le_refl _) hb3.size).drewN 1)
  have F3 := Lib.hid ((F0.out.below hb3).drewN 1)
  have HB3 := Lib.hid (below_drewN (HB.out.trans (hb3.mono HB.out.size)) 1)
  have HSd := Lib.hid ((HS.out.ext hb3).ext (below_drewN (Below.refl w3.heap.size w3) 1))
  have kk0 := G0.out.at_ (b := q) (o := 0) (V := .int .i64 v) (by simp)
  have kk1 := G0.out.at_ (b := q) (o := 1) (V := .slice A2 n2 c2) (by simp)
  have Gd := Lib.hid (G0.out.drewN 1)
  rw [← hw3, ← hq]
  have hlw3 : s + 1 ≤ (w3.drewN 1).heap.size := HSd.out.lt
  clear hw3 hb3 hq
  have hent1 : ∀ args w, (callFunc 70 args).run Tryz.prog w = .ok (.enter 70 args) w := enters_of Tryz.func70 (by kernel_rfl) rfl
  have hent2 : ∀ args w, (callFunc 52 args).run Tryz.prog w = .ok (.enter 52 args) w := enters_of Tryz.func52 (by kernel_rfl) rfl
  have hent3 : ∀ args w, (callFunc 71 args).run Tryz.prog w = .ok (.enter 71 args) w := enters_of Tryz.func71 (by kernel_rfl) rfl
  have hent4 : ∀ args w, (callFunc 69 args).run Tryz.prog w = .ok (.enter 69 args) w := enters_of Tryz.func69 (by kernel_rfl) rfl
  have ht := HT1.out
  have CN := Lib.hid (next_any s 4 (w3.drewN 1) HSd.out (by omega))
  have HS3 := HSd
  have G3 := Gd
  obtain ⟨dg, hdg⟩ : ∃ d, d = degL xss := ⟨_, rfl⟩
  have HDg := Lib.hid hdg
  obtain ⟨dd, hwd⟩ : ∃ d, IntKind.i64.wrap (dg + 2) = d := ⟨_, rfl⟩
  have HDd := Lib.hid (show dd < 9223372036854775808 by rw [← hwd, IntKind.wrap_i64]; omega)
  have hwd2 : wrap64 (dg + 2) = dd := by rw [← hwd, IntKind.wrap_i64]; unfold wrap64; omega
  clear hdg
  go_region_law
    (first
      | (refine stepD2 70 (.tmp 12) (.const (.int .i64 4)) #[83, 2] rfl rfl hent1 rfl rfl CN.out ?_
         rintro e u4 ⟨x1, rfl, hx10, hx11, hs4, hm4, hz4⟩
         refine ⟨_, rfl, ?_⟩
         have HS4 := Lib.hid hs4
         have F4 := Lib.hid (F3.out.mid hm4 (by simp; omega))
         have G4 := Lib.hid (Gd.out.mid hm4 (by simp; omega))
         have O4 := Lib.hid ((O3.out.mid hm4 (Nat.le_refl _)).mono (Nat.le_refl _) hm4.size)
         have HB4 := Lib.hid (HB3.out.trans ((hm4.below (by omega)).mono hsw))
         have k40 := G4.out.at_ (b := q) (o := 0) (V := .int .i64 v) (by simp)
         have k41 := G4.out.at_ (b := q) (o := 1) (V := .slice A2 n2 c2) (by simp)
         have CD := Lib.hid (l08Degree_any A2 n2 c2 _ xss u4 O4.out.rd (by omega) (by omega))
         rw [← HDg.out] at CD
         clear hs4 hm4 hz4)
      | (refine stepD1 52 (.tmp 16) #[24] rfl rfl hent2 rfl CD.out ?_
         rintro e u5 ⟨rfl, rfl⟩
         refine ⟨_, rfl, ?_⟩
         have CM := Lib.hid (next_any s dd u5 HS4.out (by have := HDd.out; omega)))
      | (refine stepD2 70 (.tmp 14) (.tmp 18) #[83, 2] rfl rfl hent1 rfl rfl CM.out ?_
         rintro e u6 ⟨x2, rfl, hx20, hx21, hs6, hm6, hz6⟩
         refine ⟨_, rfl, ?_⟩
         have HS6 := Lib.hid hs6
         have F6 := Lib.hid (F4.out.mid hm6 (by simp; omega))
         have G6 := Lib.hid (G4.out.mid hm6 (by simp; omega))
         have O6 := Lib.hid ((O4.out.mid hm6 (Nat.le_refl _)).mono (Nat.le_refl _) hm6.size)
         have HB6 := Lib.hid (HB4.out.trans ((hm6.below (by have := HS4.out.lt; omega)).mono hsw))
         have k60 := G6.out.at_ (b := q) (o := 0) (V := .int .i64 v) (by simp)
         have k61 := G6.out.at_ (b := q) (o := 1) (V := .slice A2 n2 c2) (by simp)
         have CR := Lib.hid (near40_any s u6 HS6.out)
         clear hs6 hm6 hz6)
      | (refine stepD2 71 (.tmp 20) (.const (.int .i64 40)) #[83, 2] rfl rfl hent3 rfl rfl CR.out ?_
         rintro e u7 ⟨x3, rfl, hs7, hm7⟩
         refine ⟨_, rfl, ?_⟩
         have HS7 := Lib.hid hs7
         have F7 := Lib.hid (F6.out.mid hm7 (by simp; omega))
         have G7 := Lib.hid (G6.out.mid hm7 (by simp; omega))
         have O7 := Lib.hid ((O6.out.mid hm7 (Nat.le_refl _)).mono (Nat.le_refl _) hm7.size)
         have HB7 := Lib.hid (HB6.out.trans ((hm7.below (by have := HS6.out.lt; omega)).mono hsw))
         have k70 := G7.out.at_ (b := q) (o := 0) (V := .int .i64 v) (by simp)
         have k71 := G7.out.at_ (b := q) (o := 1) (V := .slice A2 n2 c2) (by simp)
         have CP := Lib.hid (pickLit_any s [x1, x2, x3] u7 HS7.out (by simp) (by simp))
         have kl0 := (G7.out.below ((Below.refl u7.heap.size u7).alloc (Nat.le_refl _) (.cells #[.int .i64 x1, .int .i64 x2, .int .i64 x3] 2))).at_ (b := q) (o := 0) (V := .int .i64 v) (by simp)
         have kl1 := (G7.out.below ((Below.refl u7.heap.size u7).alloc (Nat.le_refl _) (.cells #[.int .i64 x1, .int .i64 x2, .int .i64 x3] 2))).at_ (b := q) (o := 1) (V := .slice A2 n2 c2) (by simp)
         clear hs7 hm7)
      | (refine stepD2 69 (.tmp 11) (.tmp 22) #[83, 41] rfl rfl hent4 rfl rfl CP.out ?_
         rintro e u8 ⟨i, rfl, hi, hs8, hm8⟩
         refine ⟨_, rfl, ?_⟩
         have HS8 := Lib.hid hs8
         have F8 := Lib.hid (F7.out.mid hm8 (by simp; omega))
         have G8 := Lib.hid (G7.out.mid hm8 (by simp; omega))
         have O8 := Lib.hid ((O7.out.mid hm8 (Nat.le_refl _)).mono (Nat.le_refl _) hm8.size)
         have HB8 := Lib.hid (HB7.out.trans ((hm8.below (by have := HS7.out.lt; omega)).mono hsw))
         have k80 := G8.out.at_ (b := q) (o := 0) (V := .int .i64 v) (by simp)
         have k81 := G8.out.at_ (b := q) (o := 1) (V := .slice A2 n2 c2) (by simp)
         have q0 := F8.out.at_ (b := b) (o := 0) (V := .int .i64 0) (by simp)
         have q1 := F8.out.at_ (b := b) (o := 1) (V := .slice none 0 0) (by simp)
         have f0 := F8.out.fr (b := b) (o := 0) (V := .int .i64 0) (by simp)
         have f1 := F8.out.fr (b := b) (o := 1) (V := .slice none 0 0) (by simp)
         clear hs8 hm8 hi))
  all_goals
    have hres := cells_end q0 q1 (.int .i64 v) (.slice A2 n2 c2)
    have hz8 : b + 1 ≤ u8.heap.size := by have := HS8.out.lt; omega
    have HFin := Lib.hid (RetPn.fin (v := v) (i := i) Hbe.out hz8 (O8.out.mono (by omega) (Nat.le_refl _)) (by omega) (by omega) HB8.out ((mid_setCell (p := ⟨b, 0, none⟩) (.int .i64 v) ⟨Nat.le_refl _, Nat.lt_succ_self _⟩).trans (mid_setCell (B := b) (K := b + 1) (p := ⟨b, 1, none⟩) (.slice A2 n2 c2) ⟨Nat.le_refl _, Nat.lt_succ_self _⟩)))
    go_wp2_with fail
    refine bodyPost_ret (v := .tuple #[.agg #[.int .i64 v, .slice A2 n2 c2], .int .i64 i]) (by simp [results, Tryz.results16, go_sem, hres.1, hres.2]) rfl ?_
    exact HFin.out
end Go.Proofs.YtoodhbafleemjaaGreat
