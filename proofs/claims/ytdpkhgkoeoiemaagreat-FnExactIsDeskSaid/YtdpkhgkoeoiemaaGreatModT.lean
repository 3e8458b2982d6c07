/- The law package's helpers on Module. -/
import Derived.Test.YtdpkhgkoeoiemaaGreatPly
namespace Go.Proofs.YtdpkhgkoeoiemaaGreat
open Go.RowKit
set_option linter.unusedVariables false

/-- owned integers, the block below K -/
structure OwnG (w : World) (B K : Nat) (A : Option Addr) (n c : Nat) (xs : List Int) : Prop where
  own : OwnS w B A n c xs
  out : ∀ g, Value.ownBlock (.slice A n c) = some g → g < K
theorem OwnG.below {w w' : World} {B K : Nat} {A : Option Addr} {n c : Nat} {xs : List Int} (h : OwnG w B K A n c xs) (hb : Below w.heap.size w w') : OwnG w' B K A n c xs := ⟨h.own.below hb, h.out⟩
theorem OwnG.mono {w : World} {B B' K K' : Nat} {A : Option Addr} {n c : Nat} {xs : List Int} (h : OwnG w B K A n c xs) (hb : B' ≤ B) (hk : K ≤ K') : OwnG w B' K' A n c xs := ⟨h.own.mono hb, fun g hg => Nat.lt_of_lt_of_le (h.out g hg) hk⟩
theorem OwnS.g {w : World} {B : Nat} {A : Option Addr} {n c : Nat} {xs : List Int} (h : OwnS w B A n c xs) : OwnG w B w.heap.size A n c xs := ⟨h, fun g hg => (h.own.lt g hg).2⟩
theorem OwnG.same {w w' : World} {B K : Nat} {A : Option Addr} {n c : Nat} {xs : List Int} (h : OwnG w B K A n c xs) (hs : ∀ g, B ≤ g → g < K → w'.heap[g]? = w.heap[g]?) : OwnG w' B K A n c xs :=
  ⟨⟨h.own.len, ownsRow_same h.own.own fun g hg => hs g (h.own.own.lt g hg).1 (h.out g hg)⟩, h.out⟩
theorem OwnG.apart {w w' : World} {B K B' K' : Nat} {A : Option Addr} {n c : Nat} {xs : List Int} (h : OwnG w B' K' A n c xs) (m : Mid B K w w') (hh : K ≤ B' ∨ K' ≤ B) : OwnG w' B' K' A n c xs := by
  refine ⟨⟨h.own.len, ownsRow_same h.own.own fun g hg => ?_⟩, h.out⟩
  have h1 := h.own.own.lt g hg
  have h2 := h.out g hg
  exact m.block g h1.2 (by omega)
theorem OwnM.apart {w w' : World} {B K B' K' : Nat} {A : Option Addr} {n c : Nat} {xss : List (List Int)} (h : OwnM w B' K' A n c xss) (m : Mid B K w w') (hw : K' ≤ w.heap.size) (hh : K ≤ B' ∨ K' ≤ B) : OwnM w' B' K' A n c xss :=
  h.same fun g h1 h2 => m.block g (by omega) (by omega)
theorem Mid.wide {B K B' K' : Nat} {w w' : World} (h : Mid B K w w') (h1 : B' ≤ B) (h2 : K ≤ K') : Mid B' K' w w' := ⟨h.os, h.tape, h.output, h.size, fun i hi ho => h.block i hi (by omega)⟩
theorem Mid.ofGrown {B K : Nat} {w w' : World} {row : Option Nat} (k : w.grownBy w' row) (hr : ∀ g, row = some g → B ≤ g ∧ g < K) : Mid B K w w' := (Mid.refl B K w).grown k hr
theorem OwnG.nil {w : World} {B K : Nat} : OwnG w B K none 0 0 [] := ⟨OwnS.nil, fun g hg => by cases hg⟩

theorem eqModule_same (A1 A2 A3 A4 : Option Addr) (c1 c2 c3 c4 n m : Nat) (xs : List Int) (ys : List (List Int)) (w : World) (B1 B2 : Nat)
   (h1 : RdS w B1 A1 n c1 xs) (h2 : RdS w B2 A2 n c2 xs) (h3 : RdL w B1 A3 m c3 ys) (h4 : RdL w B2 A4 m c4 ys) (hB1 : B1 ≤ w.heap.size) (hB2 : B2 ≤ w.heap.size) (hb1 : n ≤ 1000000000000) (hb2 : m ≤ 1000000000000) (ht1 : totalL ys ≤ 1000000000000) :
    Calls Tryz.prog 37 #[.agg #[.slice A1 n c1, .slice A3 m c3], .agg #[.slice A2 n c2, .slice A4 m c4]] w (RetBb true w) := by
  have hb0 : Below w.heap.size w ((w.alloc (.cells #[.slice A1 n c1, .slice A3 m c3] 41)).alloc (.cells #[.slice A2 n c2, .slice A4 m c4] 41)) := ((Below.refl _ _).alloc (Nat.le_refl _) _).alloc (by simp) _
  have H1 := Lib.hid (eqS_any A1 A2 c1 c2 n n xs xs _ B1 B2 (h1.below (hb0.mono hB1)) (h2.below (hb0.mono hB2)) hb1 hb1)
  have H3 := fun q => Lib.hid (eqL_any A3 A4 c3 c4 m m ys ys _ B1 B2 (RdL.drewN (h3.below (hb0.mono hB1)) q) (RdL.drewN (h4.below (hb0.mono hB2)) q) hb2 hb2 ht1 ht1)
  rw [decide_eq_true (rfl : xs = xs)] at H1
  simp only [decide_true] at H3
  have Hb0 := Lib.hid hb0; clear hb0 h1 h2 h3 h4
  obtain ⟨w0, hw0⟩ : ∃ w0, w0 = (w.alloc (.cells #[.slice A1 n c1, .slice A3 m c3] 41)).alloc (.cells #[.slice A2 n c2, .slice A4 m c4] 41) := ⟨_, rfl⟩
  have k1 : w0.cell? ⟨w.heap.size, 1, none⟩ = some (.slice A3 m c3) := by rw [hw0]; exact old_at (by simp) (new_at rfl rfl)
  have k2 : w0.cell? ⟨w.heap.size + 1, 1, none⟩ = some (.slice A4 m c4) := by rw [hw0]; exact new_at (by simp) rfl
  rw [← hw0] at H1 H3 Hb0
  have Hw := Lib.hid hw0; clear hw0
  go_enter Tryz.func37, Tryz.ntmps37
  go_wp2_with fail
  rw [← Hw.out]
  refine H1.out.mono ?_
  rintro e w1 ⟨rfl, q, rfl⟩
  go_wp2_with fail
  refine (H3 q).out.mono ?_
  rintro e w1 ⟨rfl, q2, rfl⟩
  go_wp2_with fail
  go_ret
  exact RetBb.mk rfl (by first | exact below_drewN Hb0.out _ | exact below_drewN (below_drewN Hb0.out _) _)

def RetMarkMod (B K K2 : Nat) (A1 A2 : Option Addr) (n c1 m c2 : Nat) (xs : List Int) (ys : List (List Int)) (x : Int) (w : World) (e : Ending) (w' : World) : Prop :=
  e = .returned (.int .i64 x) ∧ OwnG w' B K A1 n c1 xs ∧ OwnM w' K K2 A2 m c2 ys ∧ Mid B K2 w w'
end Go.Proofs.YtdpkhgkoeoiemaaGreat
