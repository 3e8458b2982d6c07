/- The law package's helpers on Desk. -/
import Derived.Test.YtdpkhgkoeoiemaaGreatModT
import Derived.Test.YtdpkhgkoeoiemaaGreatFrC
namespace Go.Proofs.YtdpkhgkoeoiemaaGreat
open Go.RowKit
set_option linter.unusedVariables false

/-- a slice: where it lies, its length and capacity -/
structure SV where
  A : Option Addr
  n : Nat
  c : Nat
/-- where the lists of a desk lie -/
structure DV where
  (m s d p g a l : SV)
/-- what a desk holds -/
structure DD where
  (m s d p : List (List Int))
  v : Int
  g : List Int
  (a l : List (List Int))
structure RdDesk (w : World) (B : Nat) (D : DV) (X : DD) : Prop where
  m : RdL w B D.m.A D.m.n D.m.c X.m
  s : RdL w B D.s.A D.s.n D.s.c X.s
  d : RdL w B D.d.A D.d.n D.d.c X.d
  p : RdL w B D.p.A D.p.n D.p.c X.p
  a : RdL w B D.a.A D.a.n D.a.c X.a
  l : RdL w B D.l.A D.l.n D.l.c X.l
  g : RdS w B D.g.A D.g.n D.g.c X.g
theorem RdDesk.below {w w1 : World} {B : Nat} {D : DV} {X : DD} (h : RdDesk w B D X) (hb : Below B w w1) : RdDesk w1 B D X := ⟨h.m.below hb, h.s.below hb, h.d.below hb, h.p.below hb, h.a.below hb, h.l.below hb, h.g.below hb⟩
theorem RdDesk.mono {w : World} {B B' : Nat} {D : DV} {X : DD} (h : RdDesk w B D X) (hb : B ≤ B') : RdDesk w B' D X := ⟨h.m.mono hb, h.s.mono hb, h.d.mono hb, h.p.mono hb, h.a.mono hb, h.l.mono hb, h.g.mono hb⟩
/-- how much a desk holds -/
def DD.tot (X : DD) : Nat := totalL X.m + totalL X.s + totalL X.d + totalL X.p + X.g.length + totalL X.a + totalL X.l
structure OkDesk (X : DD) : Prop where
  tot : X.tot ≤ 10000000
  m : X.m.length ≤ 10000000
  s : X.s.length ≤ 10000000
  d : X.d.length ≤ 10000000
  p : X.p.length ≤ 10000000
  a : X.a.length ≤ 10000000
  l : X.l.length ≤ 10000000
  g : X.g.length ≤ 10000000
/-- a desk of one's own: each list in a stretch of its own -/
structure OwnDesk (w : World) (K : Nat → Nat) (D : DV) (X : DD) : Prop where
  m : OwnM w (K 0) (K 1) D.m.A D.m.n D.m.c X.m
  s : OwnM w (K 1) (K 2) D.s.A D.s.n D.s.c X.s
  d : OwnM w (K 2) (K 3) D.d.A D.d.n D.d.c X.d
  p : OwnM w (K 3) (K 4) D.p.A D.p.n D.p.c X.p
  g : OwnG w (K 4) (K 5) D.g.A D.g.n D.g.c X.g
  a : OwnM w (K 5) (K 6) D.a.A D.a.n D.a.c X.a
  l : OwnM w (K 6) (K 7) D.l.A D.l.n D.l.c X.l
  k : ∀ i, i < 7 → K i ≤ K (i + 1)
  hi : K 7 ≤ w.heap.size
theorem OwnDesk.below {w w1 : World} {K : Nat → Nat} {D : DV} {X : DD} (h : OwnDesk w K D X) (hb : Below w.heap.size w w1) : OwnDesk w1 K D X := ⟨h.m.below hb, h.s.below hb, h.d.below hb, h.p.below hb, h.g.below hb, h.a.below hb, h.l.below hb, h.k, Nat.le_trans h.hi hb.size⟩
theorem OwnDesk.rd {w : World} {K : Nat → Nat} {D : DV} {X : DD} (h : OwnDesk w K D X) : RdDesk w w.heap.size D X := ⟨h.m.own.rd, h.s.own.rd, h.d.own.rd, h.p.own.rd, h.a.own.rd, h.l.own.rd, h.g.own.rd⟩
theorem OwnDesk.steps {w : World} {K : Nat → Nat} {D : DV} {X : DD} (h : OwnDesk w K D X) : K 0 ≤ K 1 ∧ K 1 ≤ K 2 ∧ K 2 ≤ K 3 ∧ K 3 ≤ K 4 ∧ K 4 ≤ K 5 ∧ K 5 ≤ K 6 ∧ K 6 ≤ K 7 ∧ K 7 ≤ w.heap.size :=
  ⟨h.k 0 (by omega), h.k 1 (by omega), h.k 2 (by omega), h.k 3 (by omega), h.k 4 (by omega), h.k 5 (by omega), h.k 6 (by omega), h.hi⟩
theorem OwnDesk.apart {w w1 : World} {B C : Nat} {K : Nat → Nat} {D : DV} {X : DD} (h : OwnDesk w K D X) (m : Mid B C w w1) (hh : C ≤ K 0 ∨ K 7 ≤ B) : OwnDesk w1 K D X := by
  have := h.steps
  have := h.hi
  exact ⟨h.m.apart m (by omega) (by omega), h.s.apart m (by omega) (by omega), h.d.apart m (by omega) (by omega), h.p.apart m (by omega) (by omega), h.g.apart m (by omega), h.a.apart m (by omega) (by omega), h.l.apart m (by omega) (by omega), h.k, Nat.le_trans h.hi m.size⟩
theorem OwnDesk.lo {w : World} {K : Nat → Nat} {D : DV} {X : DD} (h : OwnDesk w K D X) : K 0 ≤ K 7 := by
  have := h.steps
  omega

/-- a box of eight cells -/
theorem Cells.alloc8 {L : List (Nat × Nat × Value)} {w : World} (h : Cells L w) (V0 V1 V2 V3 V4 V5 V6 V7 : Value) (T : TypeId) {b : Nat} (hb : b = w.heap.size) :
    Cells ((b, 0, V0) :: (b, 1, V1) :: (b, 2, V2) :: (b, 3, V3) :: (b, 4, V4) :: (b, 5, V5) :: (b, 6, V6) :: (b, 7, V7) :: L) (w.alloc (.cells #[V0, V1, V2, V3, V4, V5, V6, V7] T)) := by
  subst hb
  have h2 := h.below ((Below.refl w.heap.size w).alloc (Nat.le_refl _) (.cells #[V0, V1, V2, V3, V4, V5, V6, V7] T))
  refine ⟨fun x hx => ?_, fun x hx => ?_, fun x hx => ?_⟩ <;> simp only [List.mem_cons] at hx <;> rcases hx with rfl | rfl | rfl | rfl | rfl | rfl | rfl | rfl | hx
  all_goals first
    | exact new_at rfl rfl
    | exact new_free rfl
    | exact h2.c x hx
    | exact h2.f x hx
    | exact h2.lt x hx
    | simp

set_option maxHeartbeats 1000000 in
theorem eqDesk_same (D E : DV) (X : DD) (w : World) (B1 B2 : Nat) (h1 : RdDesk w B1 D X) (h2 : RdDesk w B2 E X) (hB1 : B1 ≤ w.heap.size) (hB2 : B2 ≤ w.heap.size) (hX : OkDesk X) :
    Calls Tryz.prog 8 #[.agg #[.slice D.m.A D.m.n D.m.c, .slice D.s.A D.s.n D.s.c, .slice D.d.A D.d.n D.d.c, .int .i64 X.v, .slice D.p.A D.p.n D.p.c, .slice D.g.A D.g.n D.g.c, .slice D.a.A D.a.n D.a.c, .slice D.l.A D.l.n D.l.c], .agg #[.slice E.m.A E.m.n E.m.c, .slice E.s.A E.s.n E.s.c, .slice E.d.A E.d.n E.d.c, .int .i64 X.v, .slice E.p.A E.p.n E.p.c, .slice E.g.A E.g.n E.g.c, .slice E.a.A E.a.n E.a.c, .slice E.l.A E.l.n E.l.c]] w (RetBb true w) := by
  obtain ⟨w0, hw0⟩ : ∃ w0, w0 = (w.alloc (.cells #[.slice D.m.A D.m.n D.m.c, .slice D.s.A D.s.n D.s.c, .slice D.d.A D.d.n D.d.c, .int .i64 X.v, .slice D.p.A D.p.n D.p.c, .slice D.g.A D.g.n D.g.c, .slice D.a.A D.a.n D.a.c, .slice D.l.A D.l.n D.l.c] 44)).alloc (.cells #[.slice E.m.A E.m.n E.m.c, .slice E.s.A E.s.n E.s.c, .slice E.d.A E.d.n E.d.c, .int .i64 X.v, .slice E.p.A E.p.n E.p.c, .slice E.g.A E.g.n E.g.c, .slice E.a.A E.a.n E.a.c, .slice E.l.A E.l.n E.l.c] 44) := ⟨_, rfl⟩
  obtain ⟨b, hbe⟩ : ∃ b, b = w.heap.size := ⟨_, rfl⟩
  have hb0 : Below w.heap.size w w0 := by rw [hw0]; exact ((Below.refl _ _).alloc (Nat.le_refl _) _).alloc (by simp) _
  have hF : Cells [(b + 1, 0, .slice E.m.A E.m.n E.m.c), (b + 1, 1, .slice E.s.A E.s.n E.s.c), (b + 1, 2, .slice E.d.A E.d.n E.d.c), (b + 1, 3, .int .i64 X.v), (b + 1, 4, .slice E.p.A E.p.n E.p.c), (b + 1, 5, .slice E.g.A E.g.n E.g.c), (b + 1, 6, .slice E.a.A E.a.n E.a.c), (b + 1, 7, .slice E.l.A E.l.n E.l.c), (b, 0, .slice D.m.A D.m.n D.m.c), (b, 1, .slice D.s.A D.s.n D.s.c), (b, 2, .slice D.d.A D.d.n D.d.c), (b, 3, .int .i64 X.v), (b, 4, .slice D.p.A D.p.n D.p.c), (b, 5, .slice D.g.A D.g.n D.g.c), (b, 6, .slice D.a.A D.a.n D.a.c), (b, 7, .slice D.l.A D.l.n D.l.c)] w0 := by
    rw [hw0]
    exact (Cells.nil.alloc8 _ _ _ _ _ _ _ _ 44 hbe).alloc8 _ _ _ _ _ _ _ _ 44 (by rw [hbe]; simp)
  have Lm := Nat.le_of_eq h1.m.len.symm
  have em : E.m.n = D.m.n := by rw [← h1.m.len, ← h2.m.len]
  have Ls := Nat.le_of_eq h1.s.len.symm
  have es : E.s.n = D.s.n := by rw [← h1.s.len, ← h2.s.len]
  have Ld := Nat.le_of_eq h1.d.len.symm
  have ed : E.d.n = D.d.n := by rw [← h1.d.len, ← h2.d.len]
  have Lp := Nat.le_of_eq h1.p.len.symm
  have ep : E.p.n = D.p.n := by rw [← h1.p.len, ← h2.p.len]
  have Lg := Nat.le_of_eq h1.g.len.symm
  have eg : E.g.n = D.g.n := by rw [← h1.g.len, ← h2.g.len]
  have La := Nat.le_of_eq h1.a.len.symm
  have ea : E.a.n = D.a.n := by rw [← h1.a.len, ← h2.a.len]
  have Ll := Nat.le_of_eq h1.l.len.symm
  have el : E.l.n = D.l.n := by rw [← h1.l.len, ← h2.l.len]
  have R1 := Lib.hid ((h1.mono hB1).below hb0)
  have R2 := Lib.hid ((h2.mono hB2).below hb0)
  have HTot := Lib.hid hX.tot
  replace Lm := Nat.le_trans Lm hX.m
  replace Ls := Nat.le_trans Ls hX.s
  replace Ld := Nat.le_trans Ld hX.d
  replace Lp := Nat.le_trans Lp hX.p
  replace Lg := Nat.le_trans Lg hX.g
  replace La := Nat.le_trans La hX.a
  replace Ll := Nat.le_trans Ll hX.l
  have HX0 := Lib.hid hb0.size
  clear h1 h2 hX
  have Nm := Lib.hid em; clear em
  have Ns := Lib.hid es; clear es
  have Nd := Lib.hid ed; clear ed
  have Np := Lib.hid ep; clear ep
  have Ng := Lib.hid eg; clear eg
  have Na := Lib.hid ea; clear ea
  have Nl := Lib.hid el; clear el
  have Hb0 := Lib.hid hb0; clear hb0
  have F0 := Lib.hid hF; clear hF
  have Hw := Lib.hid hw0; clear hw0
  have Hbe := Lib.hid hbe; clear hbe
  have X0 := Lib.hid (Below.refl w0.heap.size w0)
  go_enter Tryz.func8, Tryz.ntmps8
  go_wp2_with fail
  rw [← Hw.out, ← Hbe.out]
  -- Milnor
  have Hc := Lib.hid (eqMilnor_any D.m.A E.m.A D.m.c E.m.c D.m.n E.m.n X.m X.m _ _ _ (R1.out.below (X0.out.mono HX0.out)).m (R2.out.below (X0.out.mono HX0.out)).m (Nat.le_trans HX0.out X0.out.size) (Nat.le_trans HX0.out X0.out.size) (by omega) (by rw [Nm.out]; omega) (by have := HTot.out; unfold DD.tot at this; omega) (by have := HTot.out; unfold DD.tot at this; omega))
  rw [decide_eq_true (rfl : X.m = X.m)] at Hc
  refine Hc.out.mono ?_
  rintro e w1 ⟨rfl, hb⟩
  have X1 := Lib.hid (X0.out.trans (hb.mono X0.out.size)); clear hb Hc
  -- Squares
  have k1 := (F0.out.below X1.out).at_ (b := b) (o := 1) (V := .slice D.s.A D.s.n D.s.c) (by simp)
  have q1 := (F0.out.below X1.out).at_ (b := b + 1) (o := 1) (V := .slice E.s.A E.s.n E.s.c) (by simp)
  go_wp2_with fail
  clear k1 q1
  have Hc := Lib.hid (eqSquares_any D.s.A E.s.A D.s.c E.s.c D.s.n E.s.n X.s X.s _ _ _ (R1.out.below (X1.out.mono HX0.out)).s (R2.out.below (X1.out.mono HX0.out)).s (Nat.le_trans HX0.out X1.out.size) (Nat.le_trans HX0.out X1.out.size) (by omega) (by rw [Ns.out]; omega) (by have := HTot.out; unfold DD.tot at this; omega) (by have := HTot.out; unfold DD.tot at this; omega))
  rw [decide_eq_true (rfl : X.s = X.s)] at Hc
  refine Hc.out.mono ?_
  rintro e w2 ⟨rfl, hb⟩
  have X2 := Lib.hid (X1.out.trans (hb.mono X1.out.size)); clear hb Hc
  -- Dual
  have k2 := (F0.out.below X2.out).at_ (b := b) (o := 2) (V := .slice D.d.A D.d.n D.d.c) (by simp)
  have q2 := (F0.out.below X2.out).at_ (b := b + 1) (o := 2) (V := .slice E.d.A E.d.n E.d.c) (by simp)
  go_wp2_with fail
  clear k2 q2
  have Hc := Lib.hid (eqDual_any D.d.A E.d.A D.d.c E.d.c D.d.n E.d.n X.d X.d _ _ _ (R1.out.below (X2.out.mono HX0.out)).d (R2.out.below (X2.out.mono HX0.out)).d (Nat.le_trans HX0.out X2.out.size) (Nat.le_trans HX0.out X2.out.size) (by omega) (by rw [Nd.out]; omega) (by have := HTot.out; unfold DD.tot at this; omega) (by have := HTot.out; unfold DD.tot at this; omega))
  rw [decide_eq_true (rfl : X.d = X.d)] at Hc
  refine Hc.out.mono ?_
  rintro e w3 ⟨rfl, hb⟩
  have X3 := Lib.hid (X2.out.trans (hb.mono X2.out.size)); clear hb Hc
  -- Poly
  have k3 := (F0.out.below X3.out).at_ (b := b) (o := 3) (V := .int .i64 X.v) (by simp)
  have k4 := (F0.out.below X3.out).at_ (b := b) (o := 4) (V := .slice D.p.A D.p.n D.p.c) (by simp)
  have q3 := (F0.out.below X3.out).at_ (b := b + 1) (o := 3) (V := .int .i64 X.v) (by simp)
  have q4 := (F0.out.below X3.out).at_ (b := b + 1) (o := 4) (V := .slice E.p.A E.p.n E.p.c) (by simp)
  go_wp2_with fail
  clear k3 k4 q3 q4
  have Hc := Lib.hid (eqPoly_any X.v X.v D.p.A E.p.A D.p.c E.p.c D.p.n E.p.n X.p X.p _ _ _ (R1.out.below (X3.out.mono HX0.out)).p (R2.out.below (X3.out.mono HX0.out)).p (Nat.le_trans HX0.out X3.out.size) (Nat.le_trans HX0.out X3.out.size) (by omega) (by rw [Np.out]; omega) (by have := HTot.out; unfold DD.tot at this; omega) (by have := HTot.out; unfold DD.tot at this; omega))
  rw [decide_eq_true (⟨rfl, rfl⟩ : X.v = X.v ∧ X.p = X.p)] at Hc
  refine Hc.out.mono ?_
  rintro e w4 ⟨rfl, hb⟩
  have X4 := Lib.hid (X3.out.trans (hb.mono X3.out.size)); clear hb Hc
  -- Module
  have k5 := (F0.out.below X4.out).at_ (b := b) (o := 5) (V := .slice D.g.A D.g.n D.g.c) (by simp)
  have k6 := (F0.out.below X4.out).at_ (b := b) (o := 6) (V := .slice D.a.A D.a.n D.a.c) (by simp)
  have q5 := (F0.out.below X4.out).at_ (b := b + 1) (o := 5) (V := .slice E.g.A E.g.n E.g.c) (by simp)
  have q6 := (F0.out.below X4.out).at_ (b := b + 1) (o := 6) (V := .slice E.a.A E.a.n E.a.c) (by simp)
  go_wp2_with fail
  clear k5 k6 q5 q6
  have Hc := Lib.hid (eqModule_same D.g.A E.g.A D.a.A E.a.A D.g.c E.g.c D.a.c E.a.c D.g.n D.a.n X.g X.a _ _ _ (R1.out.below (X4.out.mono HX0.out)).g (by have := (R2.out.below (X4.out.mono HX0.out)).g; rwa [Ng.out] at this) (R1.out.below (X4.out.mono HX0.out)).a (by have := (R2.out.below (X4.out.mono HX0.out)).a; rwa [Na.out] at this) (Nat.le_trans HX0.out X4.out.size) (Nat.le_trans HX0.out X4.out.size) (by omega) (by omega) (by have := HTot.out; unfold DD.tot at this; omega))
  rw [Ng.out, Na.out]
  refine Hc.out.mono ?_
  rintro e w5 ⟨rfl, hb⟩
  have X5 := Lib.hid (X4.out.trans (hb.mono X4.out.size)); clear hb Hc
  -- Lambda
  have k7 := (F0.out.below X5.out).at_ (b := b) (o := 7) (V := .slice D.l.A D.l.n D.l.c) (by simp)
  have q7 := (F0.out.below X5.out).at_ (b := b + 1) (o := 7) (V := .slice E.l.A E.l.n E.l.c) (by simp)
  go_wp2_with fail
  clear k7 q7
  have Hc := Lib.hid (eqLambda_any D.l.A E.l.A D.l.c E.l.c D.l.n E.l.n X.l X.l _ _ _ (R1.out.below (X5.out.mono HX0.out)).l (R2.out.below (X5.out.mono HX0.out)).l (Nat.le_trans HX0.out X5.out.size) (Nat.le_trans HX0.out X5.out.size) (by omega) (by rw [Nl.out]; omega) (by have := HTot.out; unfold DD.tot at this; omega) (by have := HTot.out; unfold DD.tot at this; omega))
  rw [decide_eq_true (rfl : X.l = X.l)] at Hc
  refine Hc.out.mono ?_
  rintro e w6 ⟨rfl, hb⟩
  have X6 := Lib.hid (X5.out.trans (hb.mono X5.out.size)); clear hb Hc
  go_wp2_with fail
  go_ret
  exact RetBb.mk rfl (Hb0.out.trans (X6.out.mono Hb0.out.size))

/-- what marks make of a desk -/
def markD (k : Int) (X : DD) : DD :=
  { m := marksL k X.m, s := marksL (k + totalL X.m) X.s, d := marksL (k + totalL X.m + totalL X.s) X.d, p := marksL (k + totalL X.m + totalL X.s + totalL X.d) X.p, v := X.v,
    g := marks (k + totalL X.m + totalL X.s + totalL X.d + totalL X.p) X.g.length, a := marksL (k + totalL X.m + totalL X.s + totalL X.d + totalL X.p + X.g.length) X.a,
    l := marksL (k + totalL X.m + totalL X.s + totalL X.d + totalL X.p + X.g.length + totalL X.a) X.l }
def endD (k : Int) (X : DD) : Int := k + totalL X.m + totalL X.s + totalL X.d + totalL X.p + X.g.length + totalL X.a + totalL X.l
def RetMarkD (K : Nat → Nat) (D : DV) (X : DD) (x : Int) (w : World) (e : Ending) (w' : World) : Prop := e = .returned (.int .i64 x) ∧ OwnDesk w' K D X ∧ Mid (K 0) (K 7) w w'

theorem RetMarkD.mk {K : Nat → Nat} {D : DV} {X : DD} {x y : Int} {w w' : World} (h : y = x) (ho : OwnDesk w' K D X) (hm : Mid (K 0) (K 7) w w') : RetMarkD K D X x w (.returned (.int .i64 y)) w' := ⟨by rw [h], ho, hm⟩
theorem cell_mid {B K : Nat} {w w1 : World} (m : Mid B K w w1) {b o : Nat} {V : Value} (hc : w.cell? ⟨b, o, none⟩ = some V) (hb : b < w.heap.size) (hK : b < B ∨ K ≤ b) : w1.cell? ⟨b, o, none⟩ = some V := by
  unfold World.cell? at hc ⊢
  rw [m.block b hb hK]
  exact hc
theorem Cells.mid {B K : Nat} {L : List (Nat × Nat × Value)} {w w1 : World} (h : Cells L w) (m : Mid B K w w1) (hK : ∀ x ∈ L, x.1 < B ∨ K ≤ x.1) : Cells L w1 :=
  ⟨fun x hx => cell_mid m (h.c x hx) (h.lt x hx) (hK x hx), fun x hx => by
    have := h.f x hx
    unfold World.frozen? at this ⊢
    rw [m.block x.1 (h.lt x hx) (hK x hx)]
    exact this, fun x hx => Nat.lt_of_lt_of_le (h.lt x hx) m.size⟩

end Go.Proofs.YtdpkhgkoeoiemaaGreat
