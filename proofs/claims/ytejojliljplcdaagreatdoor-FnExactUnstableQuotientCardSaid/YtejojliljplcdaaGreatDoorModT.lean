/- The law package's helpers on Module. -/
import Derived.Test.YtejojliljplcdaaGreatDoorPly
namespace Go.Proofs.YtejojliljplcdaaGreatDoor
open Go.RowKit
set_option linter.unusedVariables false

/-- owned integers, the block below K -/
structure OwnG (w : World) (B K : Nat) (A : Option Addr) (n c : Nat) (xs : List Int) : Prop where
  own : OwnS w B A n c xs
  out : ∀ g, Value.ownBlock (.slice A n c) = some g → g < K
theorem OwnG.below {w w' : World} {B K : Nat} {A : Option Addr} {n c : Nat} {xs : List Int} (h : OwnG w B K A n c xs) (hb : Below w.heap.size w w') : OwnG w' B K A n c xs := ⟨h.own.below hb, h.out⟩
theorem OwnG.mono {w : World} {B B' K K' : Nat} {A : Option Addr} {n c : Nat} {xs : List Int} (h : OwnG w B K A n c xs) (hb : B' ≤ B) (hk : K ≤ K') : OwnG w B' K' A n c xs := ⟨h.own.mono hb, fun g hg => Nat.lt_of_lt_of_le (h.out g hg) hk⟩
theorem OwnS.g {w : World} {B : Nat} {A : Option Addr} {n c : Nat} {xs : List Int} (h : OwnS w B A n c xs) : OwnG w B w.heap.size A n c xs := ⟨h, fun g hg => (h.own.lt g hg).2⟩
theorem OwnG.same {w w' : World} {B K : Nat} {A : Option Addr} {n c : Nat} {xs : List Int} (h : OwnG w B K A n c xs) (hs : ∀ g, B ≤ g → g < K → w'.heap[g]? = w.heap[g]?) : OwnG w' B K A n c xs :=
  ⟨⟨h.own.len, ownsRow_same h.own.own fun g hg => hs g (h.own.own.lt g hg).1 (h.out g hg)⟩, h.out⟩
theorem OwnG.apart {w w' : World} {B K B' K' : Nat} {A : Option Addr} {n c : Nat} {xs : List Int} (h : OwnG w B' K' A n c xs) (m : Mid B K w w') (hh : K ≤ B' ∨ K' ≤ B) : OwnG w' B' K' A n c xs := by
  refine ⟨⟨h.own.len, ownsRow_same h.own.own fun g hg => ?_⟩, h.out⟩
  have h1 := h.own.own.lt g hg
  have h2 := h.out g hg
  exact m.block g h1.2 (by omega)
theorem OwnM.apart {w w' : World} {B K B' K' : Nat} {A : Option Addr} {n c : Nat} {xss : List (List Int)} (h : OwnM w B' K' A n c xss) (m : Mid B K w w') (hw : K' ≤ w.heap.size) (hh : K ≤ B' ∨ K' ≤ B) : OwnM w' B' K' A n c xss :=
  h.same fun g h1 h2 => m.block g (by omega) (by omega)
theorem Mid.wide {B K B' K' : Nat} {w w' : World} (h : Mid B K w w') (h1 : B' ≤ B) (h2 : K ≤ K') : Mid B' K' w w' := ⟨h.os, h.tape, h.output, h.size, fun i hi ho => h.block i hi (by omega)⟩
theorem Mid.ofGrown {B K : Nat} {w w' : World} {row : Option Nat} (k : w.grownBy w' row) (hr : ∀ g, row = some g → B ≤ g ∧ g < K) : Mid B K w w' := (Mid.refl B K w).grown k hr
theorem OwnG.nil {w : World} {B K : Nat} : OwnG w B K none 0 0 [] := ⟨OwnS.nil, fun g hg => by cases hg⟩

theorem eqModule_same (A1 A2 A3 A4 : Option Addr) (c1 c2 c3 c4 n m : Nat) (xs : List Int) (ys : List (List Int)) (w : World) (B1 B2 : Nat)
   (h1 : RdS w B1 A1 n c1 xs) (h2 : RdS w B2 A2 n c2 xs) (h3 : RdL w B1 A3 m c3 ys) (h4 : RdL w B2 A4 m c4 ys) (hB1 : B1 ≤ w.heap.size) (hB2 : B2 ≤ w.heap.size) (hb1 : n ≤ 1000000000000) (hb2 : m ≤ 1000000000000) (ht1 : totalL ys ≤ 1000000000000) :
    Calls Tryz.prog 10 #[.agg #[.slice A1 n c1, .slice A3 m c3], .agg #[.slice A2 n c2, .slice A4 m c4]] w (RetBb true w) := by
  have hb0 : Below w.heap.size w ((w.alloc (.cells #[.slice A1 n c1, .slice A3 m c3] 27)).alloc (.cells #[.slice A2 n c2, .slice A4 m c4] 27)) := ((Below.refl _ _).alloc (Nat.le_refl _) _).alloc (by simp) _
  have H1 := Lib.hid (eqS_any A1 A2 c1 c2 n n xs xs _ B1 B2 (h1.below (hb0.mono hB1)) (h2.below (hb0.mono hB2)) hb1 hb1)
  have H3 := fun q => Lib.hid (eqL_any A3 A4 c3 c4 m m ys ys _ B1 B2 (RdL.drewN (h3.below (hb0.mono hB1)) q) (RdL.drewN (h4.below (hb0.mono hB2)) q) hb2 hb2 ht1 ht1)
  rw [decide_eq_true (rfl : xs = xs)] at H1
  simp only [decide_true] at H3
  have Hb0 := Lib.hid hb0; clear hb0 h1 h2 h3 h4
  obtain ⟨w0, hw0⟩ : ∃ w0, w0 = (w.alloc (.cells #[.slice A1 n c1, .slice A3 m c3] 27)).alloc (.cells #[.slice A2 n c2, .slice A4 m c4] 27) := ⟨_, rfl⟩
  have k1 : w0.cell? ⟨w.heap.size, 1, none⟩ = some (.slice A3 m c3) := by rw [hw0]; exact old_at (by simp) (new_at rfl rfl)
  have k2 : w0.cell? ⟨w.heap.size + 1, 1, none⟩ = some (.slice A4 m c4) := by rw [hw0]; exact new_at (by simp) rfl
  rw [← hw0] at H1 H3 Hb0
  have Hw := Lib.hid hw0; clear hw0
  go_enter Tryz.func10, Tryz.ntmps10
  go_wp2_with fail
  rw [← Hw.out]
  refine H1.out.mono ?_
  rintro e w1 ⟨rfl, q, rfl⟩
  go_wp2_with fail
  refine (H3 q).out.mono ?_
  rintro e w1 ⟨rfl, q2, rfl⟩
  go_wp2_with fail
  go_ret
  exact RetBb.mk rfl (by first | exact below_drewN Hb0.out _ | exact below_drewN (below_drewN Hb0.out _) _)

def RetMarkMod (B K K2 : Nat) (A1 A2 : Option Addr) (n c1 m c2 : Nat) (xs : List Int) (ys : List (List Int)) (x : Int) (w : World) (e : Ending) (w' : World) : Prop :=
  e = .returned (.int .i64 x) ∧ OwnG w' B K A1 n c1 xs ∧ OwnM w' K K2 A2 m c2 ys ∧ Mid B K2 w w'
theorem markModule_any (A1 A2 : Option Addr) (n c1 m c2 : Nat) (xs : List Int) (ys : List (List Int)) (w : World) (B K K2 : Nat) (k : Int) (h1 : OwnG w B K A1 n c1 xs) (h2 : OwnM w K K2 A2 m c2 ys) (hBK : B ≤ K) (hK2 : K ≤ K2) (hKw : K2 ≤ w.heap.size)
    (hn : n ≤ 1000000000) (hm : m ≤ 1000000000) (ht : totalL ys ≤ 1000000000) (h0 : 0 ≤ k) (hk : k ≤ 100000000) (hkn : k + n ≤ 1000000000) :
    Calls Tryz.prog 12 #[.agg #[.slice A1 n c1, .slice A2 m c2], .int .i64 k] w (RetMarkMod B K K2 A1 A2 n c1 m c2 (marks k n) (marksL (k + n) ys) (k + n + totalL ys) w) := by
  obtain ⟨w0, hw0⟩ : ∃ w0, w0 = w.alloc (.cells #[.slice A1 n c1, .slice A2 m c2] 27) := ⟨_, rfl⟩
  have hb0 : Below w.heap.size w w0 := by rw [hw0]; exact (Below.refl _ _).alloc (Nat.le_refl _) _
  have hz0 : w.heap.size < w0.heap.size := by rw [hw0]; simp
  have k1 : w0.cell? ⟨w.heap.size, 1, none⟩ = some (.slice A2 m c2) := by rw [hw0]; exact new_at rfl rfl
  have G1 := Lib.hid (h1.below hb0)
  have M2 := Lib.hid (h2.below hb0)
  have H1 := Lib.hid (markS_any A1 c1 n xs w0 B k G1.out.own (by omega) h0 (by omega))
  have Hb0 := Lib.hid hb0; clear hb0 h1 h2
  have Hw := Lib.hid hw0; clear hw0
  have K1 := Lib.hid k1
  go_enter Tryz.func12, Tryz.ntmps12
  go_wp2_with fail
  rw [← Hw.out]
  refine H1.out.mono ?_
  rintro e w1 ⟨rfl, ho1, hg1⟩
  have m1 : Mid B K w0 w1 := Mid.ofGrown hg1 fun g hg => ⟨(G1.out.own.own.lt g hg).1, G1.out.out g hg⟩
  have HM1 := Lib.hid m1
  have HO1 := Lib.hid (show OwnG w1 B K A1 n c1 (marks k n) from ⟨ho1, G1.out.out⟩)
  have k1 : w1.cell? ⟨w.heap.size, 1, none⟩ = some (.slice A2 m c2) := by
    have := m1.block w.heap.size hz0 (.inr (by omega))
    have h2 := K1.out
    unfold World.cell? at h2 ⊢
    rw [this]; exact h2
  have HM2 := Lib.hid (M2.out.mid m1 (Nat.le_refl _))
  clear ho1 hg1 m1
  go_wp2_with fail
  refine (markM_any A2 c2 m ys _ K K2 (k + n) HM2.out (by omega) (by omega) (by omega) (by omega)).mono ?_
  rintro e w2 ⟨rfl, ho2, hm2⟩
  have HO2 := Lib.hid ho2
  have HO3 := Lib.hid (HO1.out.apart hm2 (.inr (Nat.le_refl _)))
  have HMM := Lib.hid (((Mid.of_below (B := B) (K := K2) Hb0.out).trans (HM1.out.wide (Nat.le_refl _) hK2)).trans (hm2.wide hBK (Nat.le_refl _)))
  clear ho2 hm2
  go_wp2_with fail
  go_ret
  exact ⟨rfl, HO3.out, HO2.out, HMM.out⟩

theorem heldModule_any (A1 A2 : Option Addr) (n c1 m c2 : Nat) (ys : List (List Int)) (w : World) (B1 B2 : Nat) (k : Int) (h1 : RdS w B1 A1 n c1 (marks k n)) (h2 : RdL w B2 A2 m c2 (marksL (k + n) ys)) (hB1 : B1 ≤ w.heap.size) (hB2 : B2 ≤ w.heap.size)
    (hn : n ≤ 1000000000) (hm : m ≤ 1000000000) (ht : totalL ys ≤ 1000000000) (h0 : 0 ≤ k) (hk : k ≤ 100000000) (hkn : k + n ≤ 1000000000) :
    Calls Tryz.prog 14 #[.agg #[.slice A1 n c1, .slice A2 m c2], .int .i64 k] w (RetIb (k + n + totalL ys) w) := by
  obtain ⟨w0, hw0⟩ : ∃ w0, w0 = w.alloc (.cells #[.slice A1 n c1, .slice A2 m c2] 27) := ⟨_, rfl⟩
  have hb0 : Below w.heap.size w w0 := by rw [hw0]; exact (Below.refl _ _).alloc (Nat.le_refl _) _
  have k1 : w0.cell? ⟨w.heap.size, 1, none⟩ = some (.slice A2 m c2) := by rw [hw0]; exact new_at rfl rfl
  have H1 := Lib.hid (heldS_any A1 c1 n w0 B1 k (h1.below (hb0.mono hB1)) (by omega) h0 (by omega))
  have H2 := Lib.hid (heldL_any A2 c2 m ys w0 B2 (k + n) (h2.below (hb0.mono hB2)) (by omega) (by omega) (by omega) (by omega))
  have Hb0 := Lib.hid hb0; clear hb0 h1 h2
  have Hw := Lib.hid hw0; clear hw0
  obtain ⟨r, hr⟩ : ∃ r, r = k + n + (totalL ys : Int) := ⟨_, rfl⟩
  have hr0 : 0 ≤ r := by rw [hr]; omega
  rw [← hr] at H2 ⊢
  clear hr
  go_enter Tryz.func14, Tryz.ntmps14
  go_wp2_with fail
  rw [← Hw.out]
  refine (H1.out).mono ?_
  rintro e w' ⟨rfl, rfl⟩
  go_wp2_with fail
  refine (H2.out).mono ?_
  rintro e w' ⟨rfl, rfl⟩
  go_wp2_with fail
  go_ret
  exact RetIb.mk (y := r) rfl Hb0.out
end Go.Proofs.YtejojliljplcdaaGreatDoor
