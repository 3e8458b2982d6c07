/- The law package's helpers on Desk: szDesk, toDesk. -/
import Derived.Test.YtdpkhgkoeoiemaaGreatNewD
import Derived.Test.YtdpkhgkoeoiemaaGreatLawS
import Derived.Test.YtdpkhgkoeoiemaaGreatLamT
namespace Go.Proofs.YtdpkhgkoeoiemaaGreat
open Go.RowKit
set_option linter.unusedVariables false

/-- a row of cells of one's own, known -/
structure RowC (w : World) (r n : Nat) (f : Nat → Value) : Prop where
  c : ∀ i, i < n → w.cell? ⟨r, i, none⟩ = some (f i)
  f : ∀ i, i < n → w.frozen? ⟨r, i, none⟩ = false
  lt : r < w.heap.size
theorem RowC.below {w w' : World} {r n : Nat} {f : Nat → Value} (h : RowC w r n f) (hb : Below w.heap.size w w') : RowC w' r n f :=
  ⟨fun i hi => bcell hb h.lt (h.c i hi), fun i hi => bfree hb h.lt (h.f i hi), Nat.lt_of_lt_of_le h.lt hb.size⟩
theorem RowC.put {w : World} {r n : Nat} {f : Nat → Value} (h : RowC w r n f) (k : Nat) (V : Value) : RowC (w.setCell ⟨r, k, none⟩ V) r n (fun i => if i = k then V else f i) := by
  refine ⟨fun i hi => ?_, fun i hi => by rw [World.frozen?_setCell]; exact h.f i hi, by simpa [World.setCell] using h.lt⟩
  by_cases e : i = k
  · subst e
    rw [if_pos rfl, World.cell?_setCell_same (u := f i)]
    exact h.c i hi
  · rw [if_neg e, World.cell?_setCell_other]
    · exact h.c i hi
    · intro e2; injection e2 with _ e3; exact e e3.symm
theorem RowC.off {w : World} {r n : Nat} {f : Nat → Value} (h : RowC w r n f) {q k : Nat} (V : Value) (hq : q ≠ r) : RowC (w.setCell ⟨q, k, none⟩ V) r n f := by
  refine ⟨fun i hi => ?_, fun i hi => by rw [World.frozen?_setCell]; exact h.f i hi, by simpa [World.setCell] using h.lt⟩
  rw [World.cell?_setCell_other]
  · exact h.c i hi
  · intro e2; injection e2 with e3 _; exact hq e3
theorem RowC.new {w : World} {cs : Array Value} {T : TypeId} {r n : Nat} (hr : r = w.heap.size) (hn : n ≤ cs.size) : RowC (w.alloc (.cells cs T)) r n (fun i => cs[i]?.getD (.int .i64 0)) :=
  ⟨fun i hi => new_at hr (by rw [Array.getElem?_eq_getElem (by omega)]; rfl), fun i hi => new_free hr, by rw [hr]; simp⟩
theorem RowC.ext {w : World} {r n : Nat} {f g : Nat → Value} (h : RowC w r n f) (e : ∀ i, i < n → f i = g i) : RowC w r n g := ⟨fun i hi => (h.c i hi).trans (by rw [e i hi]), h.f, h.lt⟩
section
variable {w w' : World} {B n c : Nat} {A : Option Addr} {xs : List Int} {xss : List (List Int)}
theorem OwnM.go (h : OwnM w B w.heap.size A n c xss) (hb : Below w.heap.size w w') : OwnM w' B w'.heap.size A n c xss := (h.below hb).mono (Nat.le_refl _) hb.size
theorem OwnG.go (h : OwnG w B w.heap.size A n c xs) (hb : Below w.heap.size w w') : OwnG w' B w'.heap.size A n c xs := (h.below hb).mono (Nat.le_refl _) hb.size
theorem OwnM.st (h : OwnM w B w.heap.size A n c xss) (p : Addr) (V : Value) (hp : p.block < B) : OwnM (w.setCell p V) B (w.setCell p V).heap.size A n c xss := by
  have hs : (w.setCell p V).heap.size = w.heap.size := by simp [World.setCell]
  rw [hs]
  exact h.apart (mid_setCell (B := p.block) (K := p.block + 1) V ⟨Nat.le_refl _, Nat.lt_succ_self _⟩) (Nat.le_refl _) (.inl hp)
theorem OwnG.st (h : OwnG w B w.heap.size A n c xs) (p : Addr) (V : Value) (hp : p.block < B) : OwnG (w.setCell p V) B (w.setCell p V).heap.size A n c xs := by
  have hs : (w.setCell p V).heap.size = w.heap.size := by simp [World.setCell]
  rw [hs]
  exact h.apart (mid_setCell (B := p.block) (K := p.block + 1) V ⟨Nat.le_refl _, Nat.lt_succ_self _⟩) (.inl hp)
end
theorem szR_step {left : Int} {a b : Nat} (h : ¬ left < (a : Int)) : szR left (a + b) = szR (left - a) b := by
  unfold szR
  by_cases e : left - (a : Int) < (b : Int)
  · rw [if_pos e, if_pos (by omega)]
  · rw [if_neg e, if_neg (by omega)]; omega
theorem szR_stop {left : Int} {a b : Nat} (h : left < (a : Int)) : szR left (a + b) = -1 := by unfold szR; rw [if_pos (by omega)]
theorem szR_no {left : Int} {a : Nat} (h : left < (a : Int)) : szR left a = -1 := by unfold szR; rw [if_pos h]
theorem szR_ok {left : Int} {a : Nat} (h : ¬ left < (a : Int)) : szR left a = left - a := by unfold szR; rw [if_neg h]

/-- how much a desk counts -/
def szD (D : DV) (X : DD) : Nat := ((D.m.n + totalL X.m) + ((D.s.n + totalL X.s) + ((D.d.n + totalL X.d) + ((D.p.n + totalL X.p) + ((D.g.n + (D.a.n + totalL X.a)) + (D.l.n + totalL X.l))))))
/-- a desk's lists are no longer than lists are -/
structure LenD (D : DV) (X : DD) : Prop where
  m : D.m.n ≤ 9223372036854775807
  s : D.s.n ≤ 9223372036854775807
  d : D.d.n ≤ 9223372036854775807
  p : D.p.n ≤ 9223372036854775807
  g : D.g.n ≤ 9223372036854775807
  a : D.a.n ≤ 9223372036854775807
  l : D.l.n ≤ 9223372036854775807
  em : ∀ x ∈ X.m, x.length ≤ 9223372036854775807
  es : ∀ x ∈ X.s, x.length ≤ 9223372036854775807
  ed : ∀ x ∈ X.d, x.length ≤ 9223372036854775807
  ep : ∀ x ∈ X.p, x.length ≤ 9223372036854775807
  ea : ∀ x ∈ X.a, x.length ≤ 9223372036854775807
  el : ∀ x ∈ X.l, x.length ≤ 9223372036854775807

set_option maxRecDepth 100000 in
set_option maxHeartbeats 2000000 in
theorem szDesk_any (D : DV) (X : DD) (B : Nat) (w : World) (left : Int) (h : RdDesk w B D X) (hB : B ≤ w.heap.size) (h0 : 0 ≤ left) (h1 : left ≤ 1048576) (hL : LenD D X) :
    Calls Tryz.prog 4 #[.agg #[.slice D.m.A D.m.n D.m.c, .slice D.s.A D.s.n D.s.c, .slice D.d.A D.d.n D.d.c, .int .i64 X.v, .slice D.p.A D.p.n D.p.c, .slice D.g.A D.g.n D.g.c, .slice D.a.A D.a.n D.a.c, .slice D.l.A D.l.n D.l.c], .int .i64 left] w (RetIb (szR left (szD D X)) w) := by
  obtain ⟨w0, hw0⟩ : ∃ w0, w0 = w.alloc (.cells #[.slice D.m.A D.m.n D.m.c, .slice D.s.A D.s.n D.s.c, .slice D.d.A D.d.n D.d.c, .int .i64 X.v, .slice D.p.A D.p.n D.p.c, .slice D.g.A D.g.n D.g.c, .slice D.a.A D.a.n D.a.c, .slice D.l.A D.l.n D.l.c] 34) := ⟨_, rfl⟩
  obtain ⟨b, hbe⟩ : ∃ b, b = w.heap.size := ⟨_, rfl⟩
  have hb0 : Below w.heap.size w w0 := by rw [hw0]; exact (Below.refl _ _).alloc (Nat.le_refl _) _
  have R0 := Lib.hid (show RowC w0 b 8 (fun i => (#[.slice D.m.A D.m.n D.m.c, .slice D.s.A D.s.n D.s.c, .slice D.d.A D.d.n D.d.c, .int .i64 X.v, .slice D.p.A D.p.n D.p.c, .slice D.g.A D.g.n D.g.c, .slice D.a.A D.a.n D.a.c, .slice D.l.A D.l.n D.l.c] : Array Value)[i]?.getD (.int .i64 0)) from by rw [hw0]; exact RowC.new hbe (by simp))
  have H := Lib.hid (h.below (hb0.mono hB))
  have HL := Lib.hid hL
  have Hw := Lib.hid hw0
  have Hbe := Lib.hid hbe
  have Hb0 := Lib.hid hb0
  have X0' := Lib.hid (Below.refl w0.heap.size w0)
  have HB := Lib.hid (show B ≤ w0.heap.size from Nat.le_trans hB hb0.size)
  obtain ⟨R, hR⟩ : ∃ R, R = RetIb (szR left (szD D X)) w := ⟨_, rfl⟩
  have HR := Lib.hid hR
  rw [← hR]
  unfold szD at HR
  clear h hw0 hbe hb0 hB hL hR
  have k0 : _ = some (.slice D.m.A D.m.n D.m.c : Value) := R0.out.c 0 (by omega)
  go_enter Tryz.func4, Tryz.ntmps4
  go_wp2_with fail
  rw [← Hw.out, ← Hbe.out]
  go_wp2_with fail
  refine (szMilnor_any D.m.A D.m.c D.m.n B X.m _ (left) (H.out.m.below (X0'.out.mono HB.out)) (Nat.le_trans HB.out X0'.out.size) (by omega) (by omega) HL.out.m HL.out.em).mono ?_
  rintro e w1 ⟨rfl, hb⟩
  have X1 := Lib.hid (X0'.out.trans (hb.mono X0'.out.size)); clear hb k0
  by_cases hs0 : left < ((D.m.n + totalL X.m : Nat) : Int)
  · rw [szR_no hs0]
    rw [szR_stop hs0] at HR
    go_wp2_with fail
    rw [HR.out]
    exact RetIb.mk (y := -1) rfl (Hb0.out.trans (X1.out.mono Hb0.out.size))
  rw [szR_ok hs0]
  rw [szR_step hs0] at HR
  obtain ⟨r0, hr0⟩ : ∃ r, r = left - ((D.m.n + totalL X.m : Nat) : Int) := ⟨_, rfl⟩
  have hrp0 : 0 ≤ r0 := by omega
  have hrq0 : r0 ≤ 1048576 := by omega
  rw [← hr0] at HR ⊢
  clear hr0 hs0
  have R1 := R0.out.below X1.out
  have k1 : _ = some (.slice D.s.A D.s.n D.s.c : Value) := R1.c 1 (by omega)
  clear R1
  go_wp2_with fail
  refine (szSquares_any D.s.A D.s.c D.s.n B X.s _ (r0) (H.out.s.below (X1.out.mono HB.out)) (Nat.le_trans HB.out X1.out.size) (by omega) (by omega) HL.out.s HL.out.es).mono ?_
  rintro e w2 ⟨rfl, hb⟩
  have X2 := Lib.hid (X1.out.trans (hb.mono X1.out.size)); clear hb k1
  by_cases hs1 : r0 < ((D.s.n + totalL X.s : Nat) : Int)
  · rw [szR_no hs1]
    rw [szR_stop hs1] at HR
    go_wp2_with fail
    rw [HR.out]
    exact RetIb.mk (y := -1) rfl (Hb0.out.trans (X2.out.mono Hb0.out.size))
  rw [szR_ok hs1]
  rw [szR_step hs1] at HR
  obtain ⟨r1, hr1⟩ : ∃ r, r = r0 - ((D.s.n + totalL X.s : Nat) : Int) := ⟨_, rfl⟩
  have hrp1 : 0 ≤ r1 := by omega
  have hrq1 : r1 ≤ 1048576 := by omega
  rw [← hr1] at HR ⊢
  clear hr1 hs1
  have R2 := R0.out.below X2.out
  have k2 : _ = some (.slice D.d.A D.d.n D.d.c : Value) := R2.c 2 (by omega)
  clear R2
  go_wp2_with fail
  refine (szDual_any D.d.A D.d.c D.d.n B X.d _ (r1) (H.out.d.below (X2.out.mono HB.out)) (Nat.le_trans HB.out X2.out.size) (by omega) (by omega) HL.out.d HL.out.ed).mono ?_
  rintro e w3 ⟨rfl, hb⟩
  have X3 := Lib.hid (X2.out.trans (hb.mono X2.out.size)); clear hb k2
  by_cases hs2 : r1 < ((D.d.n + totalL X.d : Nat) : Int)
  · rw [szR_no hs2]
    rw [szR_stop hs2] at HR
    go_wp2_with fail
    rw [HR.out]
    exact RetIb.mk (y := -1) rfl (Hb0.out.trans (X3.out.mono Hb0.out.size))
  rw [szR_ok hs2]
  rw [szR_step hs2] at HR
  obtain ⟨r2, hr2⟩ : ∃ r, r = r1 - ((D.d.n + totalL X.d : Nat) : Int) := ⟨_, rfl⟩
  have hrp2 : 0 ≤ r2 := by omega
  have hrq2 : r2 ≤ 1048576 := by omega
  rw [← hr2] at HR ⊢
  clear hr2 hs2
  have R3 := R0.out.below X3.out
  have k3 : _ = some (.int .i64 X.v : Value) := R3.c 3 (by omega)
  have k4 : _ = some (.slice D.p.A D.p.n D.p.c : Value) := R3.c 4 (by omega)
  clear R3
  go_wp2_with fail
  refine (szPoly_any X.v D.p.A D.p.c D.p.n B X.p _ (r2) (H.out.p.below (X3.out.mono HB.out)) (Nat.le_trans HB.out X3.out.size) (by omega) (by omega) HL.out.p HL.out.ep).mono ?_
  rintro e w4 ⟨rfl, hb⟩
  have X4 := Lib.hid (X3.out.trans (hb.mono X3.out.size)); clear hb k3 k4
  by_cases hs3 : r2 < ((D.p.n + totalL X.p : Nat) : Int)
  · rw [szR_no hs3]
    rw [szR_stop hs3] at HR
    go_wp2_with fail
    rw [HR.out]
    exact RetIb.mk (y := -1) rfl (Hb0.out.trans (X4.out.mono Hb0.out.size))
  rw [szR_ok hs3]
  rw [szR_step hs3] at HR
  obtain ⟨r3, hr3⟩ : ∃ r, r = r2 - ((D.p.n + totalL X.p : Nat) : Int) := ⟨_, rfl⟩
  have hrp3 : 0 ≤ r3 := by omega
  have hrq3 : r3 ≤ 1048576 := by omega
  rw [← hr3] at HR ⊢
  clear hr3 hs3
  have R4 := R0.out.below X4.out
  have k5 : _ = some (.slice D.g.A D.g.n D.g.c : Value) := R4.c 5 (by omega)
  have k6 : _ = some (.slice D.a.A D.a.n D.a.c : Value) := R4.c 6 (by omega)
  clear R4
  go_wp2_with fail
  refine (szModule_any D.g.A D.g.c D.g.n X.g D.a.A D.a.c D.a.n B X.a _ (r3) ((⟨H.out.g, H.out.a⟩ : RdMd w0 B _ _ _ _ _ _ _ _).below (X4.out.mono HB.out)) (Nat.le_trans HB.out X4.out.size) (by omega) (by omega) HL.out.g HL.out.a HL.out.ea).mono ?_
  rintro e w5 ⟨rfl, hb⟩
  have X5 := Lib.hid (X4.out.trans (hb.mono X4.out.size)); clear hb k5 k6
  by_cases hs4 : r3 < ((D.g.n + (D.a.n + totalL X.a) : Nat) : Int)
  · rw [szR_no hs4]
    rw [szR_stop hs4] at HR
    go_wp2_with fail
    rw [HR.out]
    exact RetIb.mk (y := -1) rfl (Hb0.out.trans (X5.out.mono Hb0.out.size))
  rw [szR_ok hs4]
  rw [szR_step hs4] at HR
  obtain ⟨r4, hr4⟩ : ∃ r, r = r3 - ((D.g.n + (D.a.n + totalL X.a) : Nat) : Int) := ⟨_, rfl⟩
  have hrp4 : 0 ≤ r4 := by omega
  have hrq4 : r4 ≤ 1048576 := by omega
  rw [← hr4] at HR ⊢
  clear hr4 hs4
  have R5 := R0.out.below X5.out
  have k7 : _ = some (.slice D.l.A D.l.n D.l.c : Value) := R5.c 7 (by omega)
  clear R5
  go_wp2_with fail
  refine (szLambda_any D.l.A D.l.c D.l.n B X.l _ (r4) (H.out.l.below (X5.out.mono HB.out)) (Nat.le_trans HB.out X5.out.size) (by omega) (by omega) HL.out.l HL.out.el).mono ?_
  rintro e w6 ⟨rfl, hb⟩
  have X6 := Lib.hid (X5.out.trans (hb.mono X5.out.size)); clear hb k7
  by_cases hs5 : r4 < ((D.l.n + totalL X.l : Nat) : Int)
  · rw [szR_no hs5]
    rw [szR_no hs5] at HR
    go_wp2_with fail
    rw [HR.out]
    exact RetIb.mk (y := -1) rfl (Hb0.out.trans (X6.out.mono Hb0.out.size))
  rw [szR_ok hs5]
  rw [szR_ok hs5] at HR
  obtain ⟨r5, hr5⟩ : ∃ r, r = r4 - ((D.l.n + totalL X.l : Nat) : Int) := ⟨_, rfl⟩
  have hrp5 : 0 ≤ r5 := by omega
  have hrq5 : r5 ≤ 1048576 := by omega
  rw [← hr5] at HR ⊢
  clear hr5 hs5
  go_wp2_with fail
  rw [HR.out]
  exact RetIb.mk (y := r5) rfl (Hb0.out.trans (X6.out.mono Hb0.out.size))

/-- a desk comes back, in new memory -/
def RetDk (X : DD) (w : World) (e : Ending) (w' : World) : Prop := ∃ D, e = .returned (.agg #[.slice D.m.A D.m.n D.m.c, .slice D.s.A D.s.n D.s.c, .slice D.d.A D.d.n D.d.c, .int .i64 X.v, .slice D.p.A D.p.n D.p.c, .slice D.g.A D.g.n D.g.c, .slice D.a.A D.a.n D.a.c, .slice D.l.A D.l.n D.l.c]) ∧ RdDesk w' w'.heap.size D X ∧ Below w.heap.size w w'
set_option maxRecDepth 100000 in
set_option maxHeartbeats 4000000 in
theorem toDesk_any (D : DV) (X : DD) (w : World) (h : RdDesk w w.heap.size D X) (hs : szD D X ≤ 1048576) :
    Calls Tryz.prog 6 #[.agg #[.slice D.m.A D.m.n D.m.c, .slice D.s.A D.s.n D.s.c, .slice D.d.A D.d.n D.d.c, .int .i64 X.v, .slice D.p.A D.p.n D.p.c, .slice D.g.A D.g.n D.g.c, .slice D.a.A D.a.n D.a.c, .slice D.l.A D.l.n D.l.c]] w (RetDk X w) := by
  obtain ⟨w0, hw0⟩ : ∃ w0, w0 = ((w.alloc (.cells #[.slice D.m.A D.m.n D.m.c, .slice D.s.A D.s.n D.s.c, .slice D.d.A D.d.n D.d.c, .int .i64 X.v, .slice D.p.A D.p.n D.p.c, .slice D.g.A D.g.n D.g.c, .slice D.a.A D.a.n D.a.c, .slice D.l.A D.l.n D.l.c] 34)).alloc (.cells #[.slice none 0 0, .slice none 0 0, .slice none 0 0, .int .i64 0, .slice none 0 0, .slice none 0 0, .slice none 0 0, .slice none 0 0] 44)).alloc (.cells #[.slice none 0 0, .slice none 0 0, .slice none 0 0, .int .i64 0, .slice none 0 0, .slice none 0 0, .slice none 0 0, .slice none 0 0] 44) := ⟨_, rfl⟩
  obtain ⟨b, hbe⟩ : ∃ b, b = w.heap.size := ⟨_, rfl⟩
  have hb1 : Below w.heap.size w (w.alloc (.cells #[.slice D.m.A D.m.n D.m.c, .slice D.s.A D.s.n D.s.c, .slice D.d.A D.d.n D.d.c, .int .i64 X.v, .slice D.p.A D.p.n D.p.c, .slice D.g.A D.g.n D.g.c, .slice D.a.A D.a.n D.a.c, .slice D.l.A D.l.n D.l.c] 34)) := (Below.refl _ _).alloc (Nat.le_refl _) _
  have hb2 := (Below.refl (w.alloc (.cells #[.slice D.m.A D.m.n D.m.c, .slice D.s.A D.s.n D.s.c, .slice D.d.A D.d.n D.d.c, .int .i64 X.v, .slice D.p.A D.p.n D.p.c, .slice D.g.A D.g.n D.g.c, .slice D.a.A D.a.n D.a.c, .slice D.l.A D.l.n D.l.c] 34)).heap.size _).alloc (Nat.le_refl _) (.cells #[.slice none 0 0, .slice none 0 0, .slice none 0 0, .int .i64 0, .slice none 0 0, .slice none 0 0, .slice none 0 0, .slice none 0 0] 44)
  have hb3 := (Below.refl ((w.alloc (.cells #[.slice D.m.A D.m.n D.m.c, .slice D.s.A D.s.n D.s.c, .slice D.d.A D.d.n D.d.c, .int .i64 X.v, .slice D.p.A D.p.n D.p.c, .slice D.g.A D.g.n D.g.c, .slice D.a.A D.a.n D.a.c, .slice D.l.A D.l.n D.l.c] 34)).alloc (.cells #[.slice none 0 0, .slice none 0 0, .slice none 0 0, .int .i64 0, .slice none 0 0, .slice none 0 0, .slice none 0 0, .slice none 0 0] 44)).heap.size _).alloc (Nat.le_refl _) (.cells #[.slice none 0 0, .slice none 0 0, .slice none 0 0, .int .i64 0, .slice none 0 0, .slice none 0 0, .slice none 0 0, .slice none 0 0] 44)
  have hb0 : Below b w w0 := by rw [hw0, hbe]; exact (hb1.trans (hb2.mono hb1.size)).trans (hb3.mono (by simp; omega))
  have hz0 : w0.heap.size = b + 1 + 1 + 1 := by rw [hw0, hbe]; simp
  have SB0 := Lib.hid (show RowC w0 b 8 (fun i => (#[.slice D.m.A D.m.n D.m.c, .slice D.s.A D.s.n D.s.c, .slice D.d.A D.d.n D.d.c, .int .i64 X.v, .slice D.p.A D.p.n D.p.c, .slice D.g.A D.g.n D.g.c, .slice D.a.A D.a.n D.a.c, .slice D.l.A D.l.n D.l.c] : Array Value)[i]?.getD (.int .i64 0)) from by rw [hw0]; exact ((RowC.new hbe (by simp)).below hb2).below hb3)
  have SR0 := Lib.hid (show RowC w0 (b + 1) 8 (fun i => (#[.slice none 0 0, .slice none 0 0, .slice none 0 0, .int .i64 0, .slice none 0 0, .slice none 0 0, .slice none 0 0, .slice none 0 0] : Array Value)[i]?.getD (.int .i64 0)) from by rw [hw0]; exact (RowC.new (by rw [hbe]; simp) (by simp)).below hb3)
  have SO0 := Lib.hid (show RowC w0 (b + 1 + 1) 8 (fun i => (#[.slice none 0 0, .slice none 0 0, .slice none 0 0, .int .i64 0, .slice none 0 0, .slice none 0 0, .slice none 0 0, .slice none 0 0] : Array Value)[i]?.getD (.int .i64 0)) from by rw [hw0]; exact RowC.new (by rw [hbe]; simp) (by simp))
  have HD := Lib.hid (show RdDesk w0 b D X from by rw [hbe]; exact h.below (hbe ▸ hb0))
  have Hw := Lib.hid hw0
  have Hbe := Lib.hid hbe
  have Y0 := Lib.hid hb0
  have HZ0 := Lib.hid (show b + 1 + 1 + 1 ≤ w0.heap.size from Nat.le_of_eq hz0.symm)
  unfold szD at hs
  obtain ⟨R, hR⟩ : ∃ R, R = RetDk X w := ⟨_, rfl⟩
  have HR := Lib.hid hR
  rw [← hR]
  clear h hw0 hbe hb0 hb1 hb2 hb3 hz0 hR
  have Y00 := Lib.hid (Below.refl b w0)
  have k0 : _ = some (.slice D.m.A D.m.n D.m.c : Value) := SB0.out.c 0 (by omega)
  go_enter Tryz.func6, Tryz.ntmps6
  go_wp2_with fail
  rw [← Hw.out, ← Hbe.out]
  go_wp2_with fail
  refine (toMilnor_any D.m.A D.m.c D.m.n X.m _ ((HD.out.m.below Y00.out).mono (by have := HZ0.out; omega)) (by omega) (by omega)).mono ?_
  rintro e u1 ⟨A1, c1, rfl, ho, hb⟩
  have Q1 := ho.mono (show b + 1 + 1 + 1 ≤ w0.heap.size from HZ0.out) (Nat.le_refl _)
  have SBa := SB0.out.below hb
  have SRa := SR0.out.below hb
  have SOa := SO0.out.below hb
  have HZa := Nat.le_trans HZ0.out hb.size
  have Ya := (Y00.out.trans (hb.mono (by have := HZ0.out; omega)))
  have kc0 : _ = some (.slice none 0 0 : Value) := SOa.c 0 (by omega)
  have kf0 := SOa.f 0 (by omega)
  have SOb := SOa.put 0 (.slice A1 D.m.n c1)
  have SBb := SBa.off (q := b + 1 + 1) (k := 0) (.slice A1 D.m.n c1) (by omega)
  have SRb := SRa.off (q := b + 1 + 1) (k := 0) (.slice A1 D.m.n c1) (by omega)
  have Yb := (Below.setCell Ya (p := ⟨b + 1 + 1, 0, none⟩) (show b ≤ b + 1 + 1 by omega) (.slice A1 D.m.n c1))
  have HZb : b + 1 + 1 + 1 ≤ (u1.setCell ⟨b + 1 + 1, 0, none⟩ (.slice A1 D.m.n c1)).heap.size := by simpa [World.setCell] using HZa
  have Q1b := Q1.st ⟨b + 1 + 1, 0, none⟩ (.slice A1 D.m.n c1) (show b + 1 + 1 < b + 1 + 1 + 1 by omega)
  have k1 : _ = some (.slice D.s.A D.s.n D.s.c : Value) := SBb.c 1 (by omega)
  obtain ⟨W1, hW⟩ : ∃ W, W = (u1.setCell ⟨b + 1 + 1, 0, none⟩ (.slice A1 D.m.n c1)) := ⟨_, rfl⟩
  have HW1 := Lib.hid hW
  rw [← hW] at SOb SRb SBb Yb HZb Q1b
  have SO1 := Lib.hid SOb
  have SR1 := Lib.hid SRb
  have SB1 := Lib.hid SBb
  have Y01 := Lib.hid Yb
  have HZ1 := Lib.hid HZb
  replace Q1 := Lib.hid Q1b
  clear ho hb hW SOb SRb SBb Yb HZb SOa SRa SBa Ya HZa Q1b
  go_wp2_with fail
  rw [← HW1.out]
  clear kc0 kf0
  refine (toSquares_any D.s.A D.s.c D.s.n X.s _ ((HD.out.s.below Y01.out).mono (by have := HZ1.out; omega)) (by omega) (by omega)).mono ?_
  rintro e u2 ⟨A2, c2, rfl, ho, hb⟩
  have Q2 := ho.mono (show b + 1 + 1 + 1 ≤ W1.heap.size from HZ1.out) (Nat.le_refl _)
  have SBa := SB1.out.below hb
  have SRa := SR1.out.below hb
  have SOa := SO1.out.below hb
  have HZa := Nat.le_trans HZ1.out hb.size
  have Ya := (Y01.out.trans (hb.mono (by have := HZ1.out; omega)))
  have Q1a := Q1.out.go hb
  have kc1 : _ = some (.slice none 0 0 : Value) := SOa.c 1 (by omega)
  have kf1 := SOa.f 1 (by omega)
  have SOb := SOa.put 1 (.slice A2 D.s.n c2)
  have SBb := SBa.off (q := b + 1 + 1) (k := 1) (.slice A2 D.s.n c2) (by omega)
  have SRb := SRa.off (q := b + 1 + 1) (k := 1) (.slice A2 D.s.n c2) (by omega)
  have Yb := (Below.setCell Ya (p := ⟨b + 1 + 1, 1, none⟩) (show b ≤ b + 1 + 1 by omega) (.slice A2 D.s.n c2))
  have HZb : b + 1 + 1 + 1 ≤ (u2.setCell ⟨b + 1 + 1, 1, none⟩ (.slice A2 D.s.n c2)).heap.size := by simpa [World.setCell] using HZa
  have Q1b := Q1a.st ⟨b + 1 + 1, 1, none⟩ (.slice A2 D.s.n c2) (show b + 1 + 1 < b + 1 + 1 + 1 by omega)
  have Q2b := Q2.st ⟨b + 1 + 1, 1, none⟩ (.slice A2 D.s.n c2) (show b + 1 + 1 < b + 1 + 1 + 1 by omega)
  have k2 : _ = some (.slice D.d.A D.d.n D.d.c : Value) := SBb.c 2 (by omega)
  obtain ⟨W2, hW⟩ : ∃ W, W = (u2.setCell ⟨b + 1 + 1, 1, none⟩ (.slice A2 D.s.n c2)) := ⟨_, rfl⟩
  have HW2 := Lib.hid hW
  rw [← hW] at SOb SRb SBb Yb HZb Q1b Q2b
  have SO2 := Lib.hid SOb
  have SR2 := Lib.hid SRb
  have SB2 := Lib.hid SBb
  have Y02 := Lib.hid Yb
  have HZ2 := Lib.hid HZb
  replace Q1 := Lib.hid Q1b
  replace Q2 := Lib.hid Q2b
  clear ho hb hW SOb SRb SBb Yb HZb SOa SRa SBa Ya HZa Q1a Q1b Q2b
  go_wp2_with fail
  rw [← HW2.out]
  clear kc1 kf1
  refine (toDual_any D.d.A D.d.c D.d.n X.d _ ((HD.out.d.below Y02.out).mono (by have := HZ2.out; omega)) (by omega) (by omega)).mono ?_
  rintro e u3 ⟨A3, c3, rfl, ho, hb⟩
  have Q3 := ho.mono (show b + 1 + 1 + 1 ≤ W2.heap.size from HZ2.out) (Nat.le_refl _)
  have SBa := SB2.out.below hb
  have SRa := SR2.out.below hb
  have SOa := SO2.out.below hb
  have HZa := Nat.le_trans HZ2.out hb.size
  have Ya := (Y02.out.trans (hb.mono (by have := HZ2.out; omega)))
  have Q1a := Q1.out.go hb
  have Q2a := Q2.out.go hb
  have kc2 : _ = some (.slice none 0 0 : Value) := SOa.c 2 (by omega)
  have kf2 := SOa.f 2 (by omega)
  have SOb := SOa.put 2 (.slice A3 D.d.n c3)
  have SBb := SBa.off (q := b + 1 + 1) (k := 2) (.slice A3 D.d.n c3) (by omega)
  have SRb := SRa.off (q := b + 1 + 1) (k := 2) (.slice A3 D.d.n c3) (by omega)
  have Yb := (Below.setCell Ya (p := ⟨b + 1 + 1, 2, none⟩) (show b ≤ b + 1 + 1 by omega) (.slice A3 D.d.n c3))
  have HZb : b + 1 + 1 + 1 ≤ (u3.setCell ⟨b + 1 + 1, 2, none⟩ (.slice A3 D.d.n c3)).heap.size := by simpa [World.setCell] using HZa
  have Q1b := Q1a.st ⟨b + 1 + 1, 2, none⟩ (.slice A3 D.d.n c3) (show b + 1 + 1 < b + 1 + 1 + 1 by omega)
  have Q2b := Q2a.st ⟨b + 1 + 1, 2, none⟩ (.slice A3 D.d.n c3) (show b + 1 + 1 < b + 1 + 1 + 1 by omega)
  have Q3b := Q3.st ⟨b + 1 + 1, 2, none⟩ (.slice A3 D.d.n c3) (show b + 1 + 1 < b + 1 + 1 + 1 by omega)
  have k3 : _ = some (.int .i64 X.v : Value) := SBb.c 3 (by omega)
  have k4 : _ = some (.slice D.p.A D.p.n D.p.c : Value) := SBb.c 4 (by omega)
  obtain ⟨W3, hW⟩ : ∃ W, W = (u3.setCell ⟨b + 1 + 1, 2, none⟩ (.slice A3 D.d.n c3)) := ⟨_, rfl⟩
  have HW3 := Lib.hid hW
  rw [← hW] at SOb SRb SBb Yb HZb Q1b Q2b Q3b
  have SO3 := Lib.hid SOb
  have SR3 := Lib.hid SRb
  have SB3 := Lib.hid SBb
  have Y03 := Lib.hid Yb
  have HZ3 := Lib.hid HZb
  replace Q1 := Lib.hid Q1b
  replace Q2 := Lib.hid Q2b
  replace Q3 := Lib.hid Q3b
  clear ho hb hW SOb SRb SBb Yb HZb SOa SRa SBa Ya HZa Q1a Q1b Q2a Q2b Q3b
  go_wp2_with fail
  rw [← HW3.out]
  clear kc2 kf2
  refine (toPoly_any X.v D.p.A D.p.c D.p.n X.p _ ((HD.out.p.below Y03.out).mono (by have := HZ3.out; omega)) (by omega) (by omega)).mono ?_
  rintro e u4 ⟨A4, c4, rfl, ho, hb⟩
  have Q4 := ho.mono (show b + 1 + 1 + 1 ≤ W3.heap.size from HZ3.out) (Nat.le_refl _)
  have SBa := SB3.out.below hb
  have SRa := SR3.out.below hb
  have SOa := SO3.out.below hb
  have HZa := Nat.le_trans HZ3.out hb.size
  have Ya := (Y03.out.trans (hb.mono (by have := HZ3.out; omega)))
  have Q1a := Q1.out.go hb
  have Q2a := Q2.out.go hb
  have Q3a := Q3.out.go hb
  have kc3 : _ = some (.int .i64 0 : Value) := SOa.c 3 (by omega)
  have kf3 := SOa.f 3 (by omega)
  have SOb := SOa.put 3 (.int .i64 X.v)
  have SBb := SBa.off (q := b + 1 + 1) (k := 3) (.int .i64 X.v) (by omega)
  have SRb := SRa.off (q := b + 1 + 1) (k := 3) (.int .i64 X.v) (by omega)
  have Yb := (Below.setCell Ya (p := ⟨b + 1 + 1, 3, none⟩) (show b ≤ b + 1 + 1 by omega) (.int .i64 X.v))
  have HZb : b + 1 + 1 + 1 ≤ (u4.setCell ⟨b + 1 + 1, 3, none⟩ (.int .i64 X.v)).heap.size := by simpa [World.setCell] using HZa
  have Q1b := Q1a.st ⟨b + 1 + 1, 3, none⟩ (.int .i64 X.v) (show b + 1 + 1 < b + 1 + 1 + 1 by omega)
  have Q2b := Q2a.st ⟨b + 1 + 1, 3, none⟩ (.int .i64 X.v) (show b + 1 + 1 < b + 1 + 1 + 1 by omega)
  have Q3b := Q3a.st ⟨b + 1 + 1, 3, none⟩ (.int .i64 X.v) (show b + 1 + 1 < b + 1 + 1 + 1 by omega)
  have Q4b := Q4.st ⟨b + 1 + 1, 3, none⟩ (.int .i64 X.v) (show b + 1 + 1 < b + 1 + 1 + 1 by omega)
  have kc4 : _ = some (.slice none 0 0 : Value) := SOb.c 4 (by omega)
  have kf4 := SOb.f 4 (by omega)
  have SOc := SOb.put 4 (.slice A4 D.p.n c4)
  have SBc := SBb.off (q := b + 1 + 1) (k := 4) (.slice A4 D.p.n c4) (by omega)
  have SRc := SRb.off (q := b + 1 + 1) (k := 4) (.slice A4 D.p.n c4) (by omega)
  have Yc := (Below.setCell Yb (p := ⟨b + 1 + 1, 4, none⟩) (show b ≤ b + 1 + 1 by omega) (.slice A4 D.p.n c4))
  have HZc : b + 1 + 1 + 1 ≤ ((u4.setCell ⟨b + 1 + 1, 3, none⟩ (.int .i64 X.v)).setCell ⟨b + 1 + 1, 4, none⟩ (.slice A4 D.p.n c4)).heap.size := by simpa [World.setCell] using HZb
  have Q1c := Q1b.st ⟨b + 1 + 1, 4, none⟩ (.slice A4 D.p.n c4) (show b + 1 + 1 < b + 1 + 1 + 1 by omega)
  have Q2c := Q2b.st ⟨b + 1 + 1, 4, none⟩ (.slice A4 D.p.n c4) (show b + 1 + 1 < b + 1 + 1 + 1 by omega)
  have Q3c := Q3b.st ⟨b + 1 + 1, 4, none⟩ (.slice A4 D.p.n c4) (show b + 1 + 1 < b + 1 + 1 + 1 by omega)
  have Q4c := Q4b.st ⟨b + 1 + 1, 4, none⟩ (.slice A4 D.p.n c4) (show b + 1 + 1 < b + 1 + 1 + 1 by omega)
  have k5 : _ = some (.slice D.g.A D.g.n D.g.c : Value) := SBc.c 5 (by omega)
  have k6 : _ = some (.slice D.a.A D.a.n D.a.c : Value) := SBc.c 6 (by omega)
  obtain ⟨W4, hW⟩ : ∃ W, W = ((u4.setCell ⟨b + 1 + 1, 3, none⟩ (.int .i64 X.v)).setCell ⟨b + 1 + 1, 4, none⟩ (.slice A4 D.p.n c4)) := ⟨_, rfl⟩
  have HW4 := Lib.hid hW
  rw [← hW] at SOc SRc SBc Yc HZc Q1c Q2c Q3c Q4c
  have SO4 := Lib.hid SOc
  have SR4 := Lib.hid SRc
  have SB4 := Lib.hid SBc
  have Y04 := Lib.hid Yc
  have HZ4 := Lib.hid HZc
  replace Q1 := Lib.hid Q1c
  replace Q2 := Lib.hid Q2c
  replace Q3 := Lib.hid Q3c
  replace Q4 := Lib.hid Q4c
  clear ho hb hW SOc SRc SBc Yc HZc SOa SRa SBa Ya HZa SOb SRb SBb Yb HZb Q1a Q1b Q1c Q2a Q2b Q2c Q3a Q3b Q3c Q4b Q4c
  go_wp2_with fail
  rw [← HW4.out]
  clear kc3 kf3 kc4 kf4
  refine (toModule_any D.g.A D.g.c D.g.n X.g D.a.A D.a.c D.a.n X.a _ (⟨(HD.out.g.below Y04.out).mono (by have := HZ4.out; omega), (HD.out.a.below Y04.out).mono (by have := HZ4.out; omega)⟩ : RdMd W4 W4.heap.size _ _ _ _ _ _ _ _) (by omega) (by omega) (by omega)).mono ?_
  rintro e u5 ⟨D5, A5, q5, c5, rfl, ho, hb⟩
  obtain ⟨M5, hM1, hM2, hG, hO⟩ := ho.split
  have Q5g := (hG.mono (show b + 1 + 1 + 1 ≤ W4.heap.size from HZ4.out) hM2)
  have Q5 := hO.mono (show b + 1 + 1 + 1 ≤ M5 from Nat.le_trans HZ4.out hM1) (Nat.le_refl _)
  clear hM1 hM2 hG hO
  have SBa := SB4.out.below hb
  have SRa := SR4.out.below hb
  have SOa := SO4.out.below hb
  have HZa := Nat.le_trans HZ4.out hb.size
  have Ya := (Y04.out.trans (hb.mono (by have := HZ4.out; omega)))
  have Q1a := Q1.out.go hb
  have Q2a := Q2.out.go hb
  have Q3a := Q3.out.go hb
  have Q4a := Q4.out.go hb
  have kc5 : _ = some (.slice none 0 0 : Value) := SOa.c 5 (by omega)
  have kf5 := SOa.f 5 (by omega)
  have SOb := SOa.put 5 (.slice D5 D.g.n q5)
  have SBb := SBa.off (q := b + 1 + 1) (k := 5) (.slice D5 D.g.n q5) (by omega)
  have SRb := SRa.off (q := b + 1 + 1) (k := 5) (.slice D5 D.g.n q5) (by omega)
  have Yb := (Below.setCell Ya (p := ⟨b + 1 + 1, 5, none⟩) (show b ≤ b + 1 + 1 by omega) (.slice D5 D.g.n q5))
  have HZb : b + 1 + 1 + 1 ≤ (u5.setCell ⟨b + 1 + 1, 5, none⟩ (.slice D5 D.g.n q5)).heap.size := by simpa [World.setCell] using HZa
  have Q1b := Q1a.st ⟨b + 1 + 1, 5, none⟩ (.slice D5 D.g.n q5) (show b + 1 + 1 < b + 1 + 1 + 1 by omega)
  have Q2b := Q2a.st ⟨b + 1 + 1, 5, none⟩ (.slice D5 D.g.n q5) (show b + 1 + 1 < b + 1 + 1 + 1 by omega)
  have Q3b := Q3a.st ⟨b + 1 + 1, 5, none⟩ (.slice D5 D.g.n q5) (show b + 1 + 1 < b + 1 + 1 + 1 by omega)
  have Q4b := Q4a.st ⟨b + 1 + 1, 5, none⟩ (.slice D5 D.g.n q5) (show b + 1 + 1 < b + 1 + 1 + 1 by omega)
  have Q5b := Q5.st ⟨b + 1 + 1, 5, none⟩ (.slice D5 D.g.n q5) (show b + 1 + 1 < b + 1 + 1 + 1 by omega)
  have Q5gb := Q5g.st ⟨b + 1 + 1, 5, none⟩ (.slice D5 D.g.n q5) (show b + 1 + 1 < b + 1 + 1 + 1 by omega)
  have kc6 : _ = some (.slice none 0 0 : Value) := SOb.c 6 (by omega)
  have kf6 := SOb.f 6 (by omega)
  have SOc := SOb.put 6 (.slice A5 D.a.n c5)
  have SBc := SBb.off (q := b + 1 + 1) (k := 6) (.slice A5 D.a.n c5) (by omega)
  have SRc := SRb.off (q := b + 1 + 1) (k := 6) (.slice A5 D.a.n c5) (by omega)
  have Yc := (Below.setCell Yb (p := ⟨b + 1 + 1, 6, none⟩) (show b ≤ b + 1 + 1 by omega) (.slice A5 D.a.n c5))
  have HZc : b + 1 + 1 + 1 ≤ ((u5.setCell ⟨b + 1 + 1, 5, none⟩ (.slice D5 D.g.n q5)).setCell ⟨b + 1 + 1, 6, none⟩ (.slice A5 D.a.n c5)).heap.size := by simpa [World.setCell] using HZb
  have Q1c := Q1b.st ⟨b + 1 + 1, 6, none⟩ (.slice A5 D.a.n c5) (show b + 1 + 1 < b + 1 + 1 + 1 by omega)
  have Q2c := Q2b.st ⟨b + 1 + 1, 6, none⟩ (.slice A5 D.a.n c5) (show b + 1 + 1 < b + 1 + 1 + 1 by omega)
  have Q3c := Q3b.st ⟨b + 1 + 1, 6, none⟩ (.slice A5 D.a.n c5) (show b + 1 + 1 < b + 1 + 1 + 1 by omega)
  have Q4c := Q4b.st ⟨b + 1 + 1, 6, none⟩ (.slice A5 D.a.n c5) (show b + 1 + 1 < b + 1 + 1 + 1 by omega)
  have Q5c := Q5b.st ⟨b + 1 + 1, 6, none⟩ (.slice A5 D.a.n c5) (show b + 1 + 1 < b + 1 + 1 + 1 by omega)
  have Q5gc := Q5gb.st ⟨b + 1 + 1, 6, none⟩ (.slice A5 D.a.n c5) (show b + 1 + 1 < b + 1 + 1 + 1 by omega)
  have k7 : _ = some (.slice D.l.A D.l.n D.l.c : Value) := SBc.c 7 (by omega)
  obtain ⟨W5, hW⟩ : ∃ W, W = ((u5.setCell ⟨b + 1 + 1, 5, none⟩ (.slice D5 D.g.n q5)).setCell ⟨b + 1 + 1, 6, none⟩ (.slice A5 D.a.n c5)) := ⟨_, rfl⟩
  have HW5 := Lib.hid hW
  rw [← hW] at SOc SRc SBc Yc HZc Q1c Q2c Q3c Q4c Q5c Q5gc
  have SO5 := Lib.hid SOc
  have SR5 := Lib.hid SRc
  have SB5 := Lib.hid SBc
  have Y05 := Lib.hid Yc
  have HZ5 := Lib.hid HZc
  replace Q1 := Lib.hid Q1c
  replace Q2 := Lib.hid Q2c
  replace Q3 := Lib.hid Q3c
  replace Q4 := Lib.hid Q4c
  replace Q5 := Lib.hid Q5c
  replace Q5g := Lib.hid Q5gc
  clear ho hb hW SOc SRc SBc Yc HZc SOa SRa SBa Ya HZa SOb SRb SBb Yb HZb Q1a Q1b Q1c Q2a Q2b Q2c Q3a Q3b Q3c Q4a Q4b Q4c Q5b Q5c Q5gb Q5gc
  go_wp2_with fail
  rw [← HW5.out]
  clear kc5 kf5 kc6 kf6
  refine (toLambda_any D.l.A D.l.c D.l.n X.l _ ((HD.out.l.below Y05.out).mono (by have := HZ5.out; omega)) (by omega) (by omega)).mono ?_
  rintro e u6 ⟨A6, c6, rfl, ho, hb⟩
  have Q6 := ho.mono (show b + 1 + 1 + 1 ≤ W5.heap.size from HZ5.out) (Nat.le_refl _)
  have SBa := SB5.out.below hb
  have SRa := SR5.out.below hb
  have SOa := SO5.out.below hb
  have HZa := Nat.le_trans HZ5.out hb.size
  have Ya := (Y05.out.trans (hb.mono (by have := HZ5.out; omega)))
  have Q1a := Q1.out.go hb
  have Q2a := Q2.out.go hb
  have Q3a := Q3.out.go hb
  have Q4a := Q4.out.go hb
  have Q5a := Q5.out.go hb
  have Q5ga := Q5g.out.go hb
  have kc7 : _ = some (.slice none 0 0 : Value) := SOa.c 7 (by omega)
  have kf7 := SOa.f 7 (by omega)
  have SOb := SOa.put 7 (.slice A6 D.l.n c6)
  have SBb := SBa.off (q := b + 1 + 1) (k := 7) (.slice A6 D.l.n c6) (by omega)
  have SRb := SRa.off (q := b + 1 + 1) (k := 7) (.slice A6 D.l.n c6) (by omega)
  have Yb := (Below.setCell Ya (p := ⟨b + 1 + 1, 7, none⟩) (show b ≤ b + 1 + 1 by omega) (.slice A6 D.l.n c6))
  have HZb : b + 1 + 1 + 1 ≤ (u6.setCell ⟨b + 1 + 1, 7, none⟩ (.slice A6 D.l.n c6)).heap.size := by simpa [World.setCell] using HZa
  have Q1b := Q1a.st ⟨b + 1 + 1, 7, none⟩ (.slice A6 D.l.n c6) (show b + 1 + 1 < b + 1 + 1 + 1 by omega)
  have Q2b := Q2a.st ⟨b + 1 + 1, 7, none⟩ (.slice A6 D.l.n c6) (show b + 1 + 1 < b + 1 + 1 + 1 by omega)
  have Q3b := Q3a.st ⟨b + 1 + 1, 7, none⟩ (.slice A6 D.l.n c6) (show b + 1 + 1 < b + 1 + 1 + 1 by omega)
  have Q4b := Q4a.st ⟨b + 1 + 1, 7, none⟩ (.slice A6 D.l.n c6) (show b + 1 + 1 < b + 1 + 1 + 1 by omega)
  have Q5b := Q5a.st ⟨b + 1 + 1, 7, none⟩ (.slice A6 D.l.n c6) (show b + 1 + 1 < b + 1 + 1 + 1 by omega)
  have Q5gb := Q5ga.st ⟨b + 1 + 1, 7, none⟩ (.slice A6 D.l.n c6) (show b + 1 + 1 < b + 1 + 1 + 1 by omega)
  have Q6b := Q6.st ⟨b + 1 + 1, 7, none⟩ (.slice A6 D.l.n c6) (show b + 1 + 1 < b + 1 + 1 + 1 by omega)
  have k0 : _ = some (.slice A1 D.m.n c1 : Value) := SOb.c 0 (by omega)
  have r0 : _ = some (.slice none 0 0 : Value) := SRb.c 0 (by omega)
  have f0 := SRb.f 0 (by omega)
  have k1 : _ = some (.slice A2 D.s.n c2 : Value) := SOb.c 1 (by omega)
  have r1 : _ = some (.slice none 0 0 : Value) := SRb.c 1 (by omega)
  have f1 := SRb.f 1 (by omega)
  have k2 : _ = some (.slice A3 D.d.n c3 : Value) := SOb.c 2 (by omega)
  have r2 : _ = some (.slice none 0 0 : Value) := SRb.c 2 (by omega)
  have f2 := SRb.f 2 (by omega)
  have k3 : _ = some (.int .i64 X.v : Value) := SOb.c 3 (by omega)
  have r3 : _ = some (.int .i64 0 : Value) := SRb.c 3 (by omega)
  have f3 := SRb.f 3 (by omega)
  have k4 : _ = some (.slice A4 D.p.n c4 : Value) := SOb.c 4 (by omega)
  have r4 : _ = some (.slice none 0 0 : Value) := SRb.c 4 (by omega)
  have f4 := SRb.f 4 (by omega)
  have k5 : _ = some (.slice D5 D.g.n q5 : Value) := SOb.c 5 (by omega)
  have r5 : _ = some (.slice none 0 0 : Value) := SRb.c 5 (by omega)
  have f5 := SRb.f 5 (by omega)
  have k6 : _ = some (.slice A5 D.a.n c5 : Value) := SOb.c 6 (by omega)
  have r6 : _ = some (.slice none 0 0 : Value) := SRb.c 6 (by omega)
  have f6 := SRb.f 6 (by omega)
  have k7 : _ = some (.slice A6 D.l.n c6 : Value) := SOb.c 7 (by omega)
  have r7 : _ = some (.slice none 0 0 : Value) := SRb.c 7 (by omega)
  have f7 := SRb.f 7 (by omega)
  have hC8 : Cells [(b + 1, 0, .slice none 0 0), (b + 1, 1, .slice none 0 0), (b + 1, 2, .slice none 0 0), (b + 1, 3, .int .i64 0), (b + 1, 4, .slice none 0 0), (b + 1, 5, .slice none 0 0), (b + 1, 6, .slice none 0 0), (b + 1, 7, .slice none 0 0)] (u6.setCell ⟨b + 1 + 1, 7, none⟩ (.slice A6 D.l.n c6)) := by
    refine ⟨fun x hx => ?_, fun x hx => ?_, fun x hx => ?_⟩ <;> simp only [List.mem_cons, List.not_mem_nil, or_false] at hx <;> rcases hx with rfl | rfl | rfl | rfl | rfl | rfl | rfl | rfl
    all_goals first | exact r0 | exact f0 | exact r1 | exact f1 | exact r2 | exact f2 | exact r3 | exact f3 | exact r4 | exact f4 | exact r5 | exact f5 | exact r6 | exact f6 | exact r7 | exact f7 | exact SRb.lt
  have hres := cells8 hC8 (.slice A1 D.m.n c1) (.slice A2 D.s.n c2) (.slice A3 D.d.n c3) (.int .i64 X.v) (.slice A4 D.p.n c4) (.slice D5 D.g.n q5) (.slice A5 D.a.n c5) (.slice A6 D.l.n c6)
  obtain ⟨W6, hW⟩ : ∃ W, W = (u6.setCell ⟨b + 1 + 1, 7, none⟩ (.slice A6 D.l.n c6)) := ⟨_, rfl⟩
  have HW6 := Lib.hid hW
  rw [← hW] at SOb SRb SBb Yb HZb Q1b Q2b Q3b Q4b Q5b Q5gb Q6b
  have SO6 := Lib.hid SOb
  have SR6 := Lib.hid SRb
  have SB6 := Lib.hid SBb
  have Y06 := Lib.hid Yb
  have HZ6 := Lib.hid HZb
  replace Q1 := Lib.hid Q1b
  replace Q2 := Lib.hid Q2b
  replace Q3 := Lib.hid Q3b
  replace Q4 := Lib.hid Q4b
  replace Q5 := Lib.hid Q5b
  replace Q5g := Lib.hid Q5gb
  replace Q6 := Lib.hid Q6b
  clear ho hb hW SOb SRb SBb Yb HZb SOa SRa SBa Ya HZa Q1a Q1b Q2a Q2b Q3a Q3b Q4a Q4b Q5a Q5b Q5ga Q5gb Q6b
  have hfin : RetDk X w (.returned (.agg #[.slice A1 D.m.n c1, .slice A2 D.s.n c2, .slice A3 D.d.n c3, .int .i64 X.v, .slice A4 D.p.n c4, .slice D5 D.g.n q5, .slice A5 D.a.n c5, .slice A6 D.l.n c6])) (setRow W6 (b + 1) 0 [.slice A1 D.m.n c1, .slice A2 D.s.n c2, .slice A3 D.d.n c3, .int .i64 X.v, .slice A4 D.p.n c4, .slice D5 D.g.n q5, .slice A5 D.a.n c5, .slice A6 D.l.n c6]) := by
    have hm := setRow_mid (b + 1) (B := b + 1) (K := b + 1 + 1) ⟨Nat.le_refl _, Nat.lt_succ_self _⟩ [.slice A1 D.m.n c1, .slice A2 D.s.n c2, .slice A3 D.d.n c3, .int .i64 X.v, .slice A4 D.p.n c4, .slice D5 D.g.n q5, .slice A5 D.a.n c5, .slice A6 D.l.n c6] 0 W6
    have e1 := Hbe.out
    have hrd : RdDesk (setRow W6 (b + 1) 0 [.slice A1 D.m.n c1, .slice A2 D.s.n c2, .slice A3 D.d.n c3, .int .i64 X.v, .slice A4 D.p.n c4, .slice D5 D.g.n q5, .slice A5 D.a.n c5, .slice A6 D.l.n c6]) (setRow W6 (b + 1) 0 [.slice A1 D.m.n c1, .slice A2 D.s.n c2, .slice A3 D.d.n c3, .int .i64 X.v, .slice A4 D.p.n c4, .slice D5 D.g.n q5, .slice A5 D.a.n c5, .slice A6 D.l.n c6]).heap.size { m := ⟨A1, D.m.n, c1⟩, s := ⟨A2, D.s.n, c2⟩, d := ⟨A3, D.d.n, c3⟩, p := ⟨A4, D.p.n, c4⟩, g := ⟨D5, D.g.n, q5⟩, a := ⟨A5, D.a.n, c5⟩, l := ⟨A6, D.l.n, c6⟩ } X := by
      rw [setRow_size]
      exact ⟨((Q1.out).apart hm (Nat.le_refl _) (.inl (by omega))).own.rd |>.mono (by rw [setRow_size]; exact Nat.le_refl _), ((Q2.out).apart hm (Nat.le_refl _) (.inl (by omega))).own.rd |>.mono (by rw [setRow_size]; exact Nat.le_refl _), ((Q3.out).apart hm (Nat.le_refl _) (.inl (by omega))).own.rd |>.mono (by rw [setRow_size]; exact Nat.le_refl _), ((Q4.out).apart hm (Nat.le_refl _) (.inl (by omega))).own.rd |>.mono (by rw [setRow_size]; exact Nat.le_refl _), ((Q5.out).apart hm (Nat.le_refl _) (.inl (by omega))).own.rd |>.mono (by rw [setRow_size]; exact Nat.le_refl _), ((Q6.out).apart hm (Nat.le_refl _) (.inl (by omega))).own.rd |>.mono (by rw [setRow_size]; exact Nat.le_refl _), ((Q5g.out).apart hm (.inl (by omega))).own.rd |>.mono (by rw [setRow_size]; exact Nat.le_refl _)⟩
    have hbl : Below w.heap.size w W6 := by
      have := Y0.out.trans Y06.out
      rw [Hbe.out] at this
      exact this
    exact ⟨{ m := ⟨A1, D.m.n, c1⟩, s := ⟨A2, D.s.n, c2⟩, d := ⟨A3, D.d.n, c3⟩, p := ⟨A4, D.p.n, c4⟩, g := ⟨D5, D.g.n, q5⟩, a := ⟨A5, D.a.n, c5⟩, l := ⟨A6, D.l.n, c6⟩ }, rfl, hrd, hbl.trans ((hm.below (by have := HZ6.out; omega)).mono (by omega))⟩
  have HFin := Lib.hid hfin
  rw [HW6.out] at HFin
  clear hfin
  simp only [setRow, Nat.zero_add, Nat.reduceAdd] at hres HFin
  go_wp2_with fail
  rw [HR.out]
  exact bodyPost_ret (v := .agg #[.slice A1 D.m.n c1, .slice A2 D.s.n c2, .slice A3 D.d.n c3, .int .i64 X.v, .slice A4 D.p.n c4, .slice D5 D.g.n q5, .slice A5 D.a.n c5, .slice A6 D.l.n c6]) (by simp [results, Tryz.results6, go_sem, hres]) rfl HFin.out
end Go.Proofs.YtdpkhgkoeoiemaaGreat
