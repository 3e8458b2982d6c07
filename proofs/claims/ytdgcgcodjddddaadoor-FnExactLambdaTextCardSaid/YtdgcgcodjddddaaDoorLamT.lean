/- The law package's helpers on structs with one list of lists (Lambda, Squares, Milnor, Dual). -/
import Derived.Test.YtdgcgcodjddddaaDoorMid
import Derived.Test.YtdgcgcodjddddaaDoorExc
namespace Go.Proofs.YtdgcgcodjddddaaDoor
open Go.RowKit
set_option linter.unusedVariables false

theorem mid_setCell {B K : Nat} {w : World} {p : Addr} (v : Value) (h : B ≤ p.block ∧ p.block < K) : Mid B K w (w.setCell p v) :=
  ⟨rfl, rfl, rfl, by simp [World.setCell], fun i hi ho => Below.heap_setCell w p v i (by omega)⟩
theorem bcell {W w1 : World} (hb : Below W.heap.size W w1) {b o : Nat} {v : Value} (h : b < W.heap.size) (hc : W.cell? ⟨b, o, none⟩ = some v) : w1.cell? ⟨b, o, none⟩ = some v := (hb.cell (p := ⟨b, o, none⟩) h).trans hc
theorem bfree {W w1 : World} (hb : Below W.heap.size W w1) {b o : Nat} (h : b < W.heap.size) (hc : W.frozen? ⟨b, o, none⟩ = false) : w1.frozen? ⟨b, o, none⟩ = false := (hb.frozen (p := ⟨b, o, none⟩) h).trans hc

theorem new_at {w : World} {cs : Array Value} {T : TypeId} {b i : Nat} {v : Value} (hb : b = w.heap.size) (hv : cs[i]? = some v) : (w.alloc (.cells cs T)).cell? ⟨b, i, none⟩ = some v := by subst hb; simp [hv]
theorem new_free {w : World} {cs : Array Value} {T : TypeId} {b i : Nat} (hb : b = w.heap.size) : (w.alloc (.cells cs T)).frozen? ⟨b, i, none⟩ = false := by subst hb; simp
theorem old_at {w : World} {o : Obj} {b i : Nat} {v : Value} (hb : b < w.heap.size) (hv : w.cell? ⟨b, i, none⟩ = some v) : (w.alloc o).cell? ⟨b, i, none⟩ = some v := bcell ((Below.refl _ _).alloc (Nat.le_refl _) _) hb hv
theorem old_free {w : World} {o : Obj} {b i : Nat} (hb : b < w.heap.size) (hv : w.frozen? ⟨b, i, none⟩ = false) : (w.alloc o).frozen? ⟨b, i, none⟩ = false := bfree ((Below.refl _ _).alloc (Nat.le_refl _) _) hb hv

/-- a struct of one owned list of lists comes back -/
def RetM (n : Nat) (xss : List (List Int)) (w : World) (e : Ending) (w' : World) : Prop :=
  ∃ A c, e = .returned (.agg #[.slice A n c]) ∧ OwnM w' w.heap.size w'.heap.size A n c xss ∧ Below w.heap.size w w'
def RetMC (n : Nat) (xss : List (List Int)) (k : Int) (w : World) (e : Ending) (w' : World) : Prop :=
  ∃ A c, e = .returned (.tuple #[.agg #[.slice A n c], .int .i64 k]) ∧ OwnM w' w.heap.size w'.heap.size A n c xss ∧ Below w.heap.size w w'

theorem szLambda_any (A : Option Addr) (c n B : Nat) (xss : List (List Int)) (w : World) (left : Int) (h : RdL w B A n c xss) (hB : B ≤ w.heap.size) (h0 : 0 ≤ left) (h1 : left ≤ 1048576) (hn : n ≤ 9223372036854775807) (hx : ∀ x ∈ xss, x.length ≤ 9223372036854775807) :
    Calls Tryd.prog 7 #[.agg #[.slice A n c], .int .i64 left] w (RetIb (szR left (n + totalL xss)) w) := by
  have hb0 : Below w.heap.size w (w.alloc (.cells #[.slice A n c] 24)) := (Below.refl _ _).alloc (Nat.le_refl _) _
  have H := Lib.hid (szL_any A c n B xss _ left (h.below (hb0.mono hB)) h0 h1 hn hx); clear h hx
  have Hb0 := Lib.hid hb0; clear hb0
  by_cases hs : left < ((n + totalL xss : Nat) : Int)
  · rw [show szR left (n + totalL xss) = -1 from by unfold szR; rw [if_pos hs]] at H ⊢
    clear hs
    go_enter Tryd.func7, Tryd.ntmps7
    go_wp2_with fail
    refine (H.out).mono ?_
    rintro e w' ⟨rfl, rfl⟩
    go_wp2_with fail
    go_ret
    exact RetIb.mk (y := -1) rfl Hb0.out
  · obtain ⟨r, hr⟩ : ∃ r, r = szR left (n + totalL xss) := ⟨_, rfl⟩
    have hr0 : 0 ≤ r := by rw [hr]; unfold szR; rw [if_neg hs]; omega
    rw [← hr] at H ⊢
    clear hs hr
    go_enter Tryd.func7, Tryd.ntmps7
    go_wp2_with fail
    refine (H.out).mono ?_
    rintro e w' ⟨rfl, rfl⟩
    go_wp2_with fail
    go_ret
    exact RetIb.mk (y := r) rfl Hb0.out

theorem toLambda_any (A : Option Addr) (c n : Nat) (xss : List (List Int)) (w : World) (h : RdL w w.heap.size A n c xss) (hn : n ≤ 2000000) (ht : totalL xss ≤ 2000000) :
    Calls Tryd.prog 9 #[.agg #[.slice A n c]] w (RetM n xss w) := by
  obtain ⟨w0, hw0⟩ : ∃ w0, w0 = ((w.alloc (.cells #[.slice A n c] 24)).alloc (.cells #[.slice none 0 0] 28)).alloc (.cells #[.slice none 0 0] 28) := ⟨_, rfl⟩
  have hb0 : Below w.heap.size w w0 := by rw [hw0]; exact (((Below.refl _ _).alloc (Nat.le_refl _) _).alloc (by simp) _).alloc (by simp; omega) _
  have H := Lib.hid (toL_any A c n xss w0 ((h.below hb0).mono hb0.size) hn ht); clear h
  have Hb0 := Lib.hid hb0; clear hb0
  have Hw := Lib.hid hw0
  have hsz : w0.heap.size = w.heap.size + 3 := by rw [hw0]; simp
  have c1 : w0.cell? ⟨w.heap.size + 1, 0, none⟩ = some (.slice none 0 0) := by rw [hw0]; exact old_at (by simp) (new_at (by simp) rfl)
  have f1 : w0.frozen? ⟨w.heap.size + 1, 0, none⟩ = false := by rw [hw0]; exact old_free (by simp) (new_free (by simp))
  have c2 : w0.cell? ⟨w.heap.size + 2, 0, none⟩ = some (.slice none 0 0) := by rw [hw0]; exact new_at (by simp) rfl
  have f2 : w0.frozen? ⟨w.heap.size + 2, 0, none⟩ = false := by rw [hw0]; exact new_free (by simp)
  have HC := Lib.hid (And.intro hsz (And.intro c1 (And.intro f1 (And.intro c2 f2))))
  clear hsz c1 f1 c2 f2 hw0
  go_enter Tryd.func9, Tryd.ntmps9
  go_wp2_with fail
  rw [← Hw.out]
  refine H.out.mono ?_
  rintro e w1 ⟨A1, c1, rfl, ho1, hb1⟩
  obtain ⟨hsz, k1, f1, k2, f2⟩ := HC.out
  have k1' := bcell hb1 (by omega) k1
  have f1' := bfree hb1 (by omega) f1
  have k2' := bcell hb1 (by omega) k2
  have f2' := bfree hb1 (by omega) f2
  have HO := Lib.hid (OwnM.mid (B := w.heap.size) (K := w0.heap.size) (ho1.m (Nat.le_refl _)) ((mid_setCell (p := ⟨w.heap.size + 2, 0, none⟩) (.slice A1 n c1) (by rw [hsz]; constructor <;> simp)).trans (mid_setCell (p := ⟨w.heap.size + 1, 0, none⟩) (.slice A1 n c1) (by rw [hsz]; constructor <;> simp))) (Nat.le_refl _))
  have HB := Lib.hid (((Hb0.out.trans (hb1.mono Hb0.out.size)).setCell (p := ⟨w.heap.size + 2, 0, none⟩) (by simp) (.slice A1 n c1)).setCell (p := ⟨w.heap.size + 1, 0, none⟩) (by simp) (.slice A1 n c1))
  have Hsz := Lib.hid (And.intro hsz hb1.size)
  clear k1 f1 k2 f2 hb1 ho1 hsz
  have hres : ((w1.setCell ⟨w.heap.size + 1 + 1, 0, none⟩ (.slice A1 n c1)).setCell ⟨w.heap.size + 1, 0, none⟩ (.slice A1 n c1)).cell? ⟨w.heap.size + 1, 0, none⟩ = some (.slice A1 n c1) :=
by
      rw [World.cell?_setCell_same (u := .slice none 0 0)]
      rw [World.cell?_setCell_other]
      · exact k1'
      · simp
  go_wp2_with fail
  refine bodyPost_ret (v := .agg #[.slice A1 n c1]) (by simp [results, Tryd.results9, go_sem, hres]) rfl ⟨A1, c1, rfl, HO.out.mono Hb0.out.size (by simp [World.setCell]), HB.out⟩

theorem eqLambda_any (A1 A2 : Option Addr) (c1 c2 n m : Nat) (xs ys : List (List Int)) (w : World) (B1 B2 : Nat)
   (h1 : RdL w B1 A1 n c1 xs) (h2 : RdL w B2 A2 m c2 ys) (hB1 : B1 ≤ w.heap.size) (hB2 : B2 ≤ w.heap.size) (hb1 : n ≤ 1000000000000) (hb2 : m ≤ 1000000000000) (ht1 : totalL xs ≤ 1000000000000) (ht2 : totalL ys ≤ 1000000000000) :
    Calls Tryd.prog 11 #[.agg #[.slice A1 n c1], .agg #[.slice A2 m c2]] w (RetBb (decide (xs = ys)) w) := by
  have hb0 : Below w.heap.size w ((w.alloc (.cells #[.slice A1 n c1] 28)).alloc (.cells #[.slice A2 m c2] 28)) := ((Below.refl _ _).alloc (Nat.le_refl _) _).alloc (by simp) _
  have H := Lib.hid (eqL_any A1 A2 c1 c2 n m xs ys _ B1 B2 (h1.below (hb0.mono hB1)) (h2.below (hb0.mono hB2)) hb1 hb2 ht1 ht2); clear h1 h2
  have Hb0 := Lib.hid hb0; clear hb0
  cases hd : decide (xs = ys)
  all_goals
    rw [hd] at H; clear hd
    go_enter Tryd.func11, Tryd.ntmps11
    go_wp2_with fail
    refine H.out.mono ?_
    rintro e w1 ⟨rfl, q, rfl⟩
    go_wp2_with fail
    go_ret
    exact RetBb.mk rfl (below_drewN Hb0.out q)


end Go.Proofs.YtdgcgcodjddddaaDoor
