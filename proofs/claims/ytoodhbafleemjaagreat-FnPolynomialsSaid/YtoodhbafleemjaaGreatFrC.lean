/- Cells of a function's own variables, followed from world to world; the end of a function whose answer is a struct of a number and a list of lists, and a code. -/
import Derived.Test.YtoodhbafleemjaaGreatPly
namespace Go.Proofs.YtoodhbafleemjaaGreat
open Go.RowKit
set_option linter.unusedVariables false

/-- cells that are known, and may be written: block, place, value -/
structure Cells (L : List (Nat × Nat × Value)) (w : World) : Prop where
  c : ∀ x ∈ L, w.cell? ⟨x.1, x.2.1, none⟩ = some x.2.2
  f : ∀ x ∈ L, w.frozen? ⟨x.1, x.2.1, none⟩ = false
  lt : ∀ x ∈ L, x.1 < w.heap.size
theorem Cells.nil {w : World} : Cells [] w := ⟨fun x h => (by cases h), fun x h => (by cases h), fun x h => (by cases h)⟩
theorem Cells.at_ {L : List (Nat × Nat × Value)} {w : World} (h : Cells L w) {b o : Nat} {V : Value} (hm : (b, o, V) ∈ L) : w.cell? ⟨b, o, none⟩ = some V := h.c _ hm
theorem Cells.fr {L : List (Nat × Nat × Value)} {w : World} (h : Cells L w) {b o : Nat} {V : Value} (hm : (b, o, V) ∈ L) : w.frozen? ⟨b, o, none⟩ = false := h.f _ hm
theorem Cells.below {L : List (Nat × Nat × Value)} {w w1 : World} (h : Cells L w) (hb : Below w.heap.size w w1) : Cells L w1 :=
  ⟨fun x hx => bcell hb (h.lt x hx) (h.c x hx), fun x hx => bfree hb (h.lt x hx) (h.f x hx), fun x hx => Nat.lt_of_lt_of_le (h.lt x hx) hb.size⟩
theorem Cells.belowB {L : List (Nat × Nat × Value)} {w w1 : World} {B : Nat} (h : Cells L w) (hb : Below B w w1) (hB : ∀ x ∈ L, x.1 < B) : Cells L w1 :=
  ⟨fun x hx => (hb.cell (p := ⟨x.1, x.2.1, none⟩) (hB x hx)).trans (h.c x hx), fun x hx => (hb.frozen (p := ⟨x.1, x.2.1, none⟩) (hB x hx)).trans (h.f x hx), fun x hx => Nat.lt_of_lt_of_le (h.lt x hx) hb.size⟩
theorem Cells.drewN {L : List (Nat × Nat × Value)} {w : World} (h : Cells L w) (k : Nat) : Cells L (w.drewN k) := h.below (below_drewN (Below.refl _ _) k)
theorem Cells.alloc1 {L : List (Nat × Nat × Value)} {w : World} (h : Cells L w) (V : Value) (T : TypeId) {b : Nat} (hb : b = w.heap.size) : Cells ((b, 0, V) :: L) (w.alloc (.cells #[V] T)) := by
  subst hb
  have h2 := h.below ((Below.refl w.heap.size w).alloc (Nat.le_refl _) (.cells #[V] T))
  refine ⟨fun x hx => ?_, fun x hx => ?_, fun x hx => ?_⟩ <;> rcases List.mem_cons.1 hx with rfl | hx
  · exact new_at rfl rfl
  · exact h2.c x hx
  · exact new_free rfl
  · exact h2.f x hx
  · simp
  · exact h2.lt x hx
theorem Cells.alloc2 {L : List (Nat × Nat × Value)} {w : World} (h : Cells L w) (U V : Value) (T : TypeId) {b : Nat} (hb : b = w.heap.size) : Cells ((b, 0, U) :: (b, 1, V) :: L) (w.alloc (.cells #[U, V] T)) := by
  subst hb
  have h2 := h.below ((Below.refl w.heap.size w).alloc (Nat.le_refl _) (.cells #[U, V] T))
  refine ⟨fun x hx => ?_, fun x hx => ?_, fun x hx => ?_⟩ <;> rcases List.mem_cons.1 hx with rfl | hx
  · exact new_at rfl rfl
  · rcases List.mem_cons.1 hx with rfl | hx
    · exact new_at rfl rfl
    · exact h2.c x hx
  · exact new_free rfl
  · rcases List.mem_cons.1 hx with rfl | hx
    · exact new_free rfl
    · exact h2.f x hx
  · simp
  · rcases List.mem_cons.1 hx with rfl | hx
    · simp
    · exact h2.lt x hx
theorem Cells.sub {L M : List (Nat × Nat × Value)} {w : World} (h : Cells L w) (hs : ∀ x ∈ M, x ∈ L) : Cells M w := ⟨fun x hx => h.c x (hs x hx), fun x hx => h.f x (hs x hx), fun x hx => h.lt x (hs x hx)⟩
theorem Cells.set {L : List (Nat × Nat × Value)} {w : World} {b o : Nat} {U : Value} (h : Cells ((b, o, U) :: L) w) (hn : ∀ x ∈ L, ¬ (x.1 = b ∧ x.2.1 = o)) (V : Value) : Cells ((b, o, V) :: L) (w.setCell ⟨b, o, none⟩ V) := by
  have hsz : (w.setCell ⟨b, o, none⟩ V).heap.size = w.heap.size := by simp [World.setCell]
  refine ⟨fun x hx => ?_, fun x hx => ?_, fun x hx => ?_⟩ <;> rcases List.mem_cons.1 hx with rfl | hx
  · rw [World.cell?_setCell_same (u := U)]
    exact h.at_ (by simp)
  · rw [World.cell?_setCell_other]
    · exact h.c x (List.mem_cons_of_mem _ hx)
    · intro e
      injection e with e1 e2
      exact hn x hx ⟨e1.symm, e2.symm⟩
  · rw [World.frozen?_setCell]; exact h.fr (List.mem_cons_self ..)
  · rw [World.frozen?_setCell]; exact h.f x (List.mem_cons_of_mem _ hx)
  · rw [hsz]; exact h.lt (b, o, U) (List.mem_cons_self ..)
  · rw [hsz]; exact h.lt x (List.mem_cons_of_mem _ hx)

/-- a box of a Poly and the result's cells -/
theorem start22 (w : World) (U1 U2 V1 V2 : Value) (T1 T2 : TypeId) : ∃ w0 b, w0 = (w.alloc (.cells #[U1, U2] T1)).alloc (.cells #[V1, V2] T2) ∧ b = w.heap.size ∧ Below w.heap.size w w0 ∧ w0.heap.size = b + 1 + 1 ∧
    Cells [(b + 1, 0, V1), (b + 1, 1, V2), (b, 0, U1), (b, 1, U2)] w0 := by
  refine ⟨_, _, rfl, rfl, ((Below.refl _ _).alloc (Nat.le_refl _) _).alloc (by simp) _, by simp, ?_⟩
  exact (Cells.nil.alloc2 U1 U2 T1 rfl).alloc2 V1 V2 T2 (by simp)
theorem start1 (w : World) (U1 U2 : Value) (T1 : TypeId) : ∃ w0 b, w0 = w.alloc (.cells #[U1, U2] T1) ∧ b = w.heap.size ∧ Below w.heap.size w w0 ∧ w0.heap.size = b + 1 ∧ Cells [(b, 0, U1), (b, 1, U2)] w0 :=
  ⟨_, _, rfl, rfl, (Below.refl _ _).alloc (Nat.le_refl _) _, by simp, Cells.nil.alloc2 U1 U2 T1 rfl⟩

theorem cells_end {w : World} {r : Nat} {U0 U1 : Value} (h0 : w.cell? ⟨r, 0, none⟩ = some U0) (h1 : w.cell? ⟨r, 1, none⟩ = some U1) (V0 V1 : Value) :
    ((w.setCell ⟨r, 0, none⟩ V0).setCell ⟨r, 1, none⟩ V1).cell? ⟨r, 0, none⟩ = some V0 ∧ ((w.setCell ⟨r, 0, none⟩ V0).setCell ⟨r, 1, none⟩ V1).cell? ⟨r, 1, none⟩ = some V1 := by
  constructor
  · rw [World.cell?_setCell_other]
    · rw [World.cell?_setCell_same (u := U0)]
      exact h0
    · simp
  · rw [World.cell?_setCell_same (u := U1)]
    rw [World.cell?_setCell_other]
    · exact h1
    · simp
theorem RetNC.mk {w wn : World} {r V K n m c : Nat} {A : Option Addr} {xss yss : List (List Int)} {v v' k k' : Int} {V0 V1 : Value} (hv : v' = v) (hm : m = n) (hx : yss = xss) (hk : k' = k) (Bw : Below w.heap.size w wn) (hr : w.heap.size ≤ r) (hrV : r < V)
    (O : OwnM wn V K A m c yss) (hK : K ≤ wn.heap.size) : RetNC v n xss k w (.returned (.tuple #[.agg #[.int .i64 v', .slice A m c], .int .i64 k'])) ((wn.setCell ⟨r, 0, none⟩ V0).setCell ⟨r, 1, none⟩ V1) := by
  subst hv; subst hm; subst hx; subst hk
  refine ⟨A, c, rfl, ?_, (Bw.setCell (p := ⟨r, 0, none⟩) hr V0).setCell (p := ⟨r, 1, none⟩) hr V1⟩
  refine (OwnM.mid (B := w.heap.size) (K := V) O ((mid_setCell (p := ⟨r, 0, none⟩) V0 ⟨hr, hrV⟩).trans (mid_setCell (p := ⟨r, 1, none⟩) V1 ⟨hr, hrV⟩)) (Nat.le_refl _)).mono (Nat.le_of_lt (Nat.lt_of_le_of_lt hr hrV)) ?_
  simpa [World.setCell] using hK
theorem RetNC.bad {w wn : World} {r : Nat} {xss : List (List Int)} {v k k' : Int} {V0 V1 : Value} (hv : 0 = v) (hx : [] = xss) (hk : k' = k) (Bw : Below w.heap.size w wn) (hr : w.heap.size ≤ r) :
    RetNC v xss.length xss k w (.returned (.tuple #[.agg #[.int .i64 0, .slice none 0 0], .int .i64 k'])) ((wn.setCell ⟨r, 0, none⟩ V0).setCell ⟨r, 1, none⟩ V1) := by
  subst hx
  exact RetNC.mk (V := r + 1) (K := 0) hv rfl rfl hk Bw hr (Nat.lt_succ_self _) OwnM.nil (Nat.zero_le _)
theorem RetNC.void {w wn : World} {r : Nat} {xss : List (List Int)} {v v' k k' : Int} {V0 V1 : Value} (hv : v' = v) (hx : [] = xss) (hk : k' = k) (Bw : Below w.heap.size w wn) (hr : w.heap.size ≤ r) :
    RetNC v xss.length xss k w (.returned (.tuple #[.agg #[.int .i64 v', .slice none 0 0], .int .i64 k'])) ((wn.setCell ⟨r, 0, none⟩ V0).setCell ⟨r, 1, none⟩ V1) := by
  subst hx
  exact RetNC.mk (V := r + 1) (K := 0) hv rfl rfl hk Bw hr (Nat.lt_succ_self _) OwnM.nil (Nat.zero_le _)
theorem bcellP {W w1 : World} (hb : Below W.heap.size W w1) {a : Addr} {v : Value} (h : a.block < W.heap.size) (hc : W.cell? a = some v) : w1.cell? a = some v := (hb.cell (p := a) h).trans hc
theorem rdL_single {w : World} {B n c : Nat} {A : Option Addr} {x : List Int} (h : RdS w B A n c x) (hB : B ≤ w.heap.size) : RdL (w.alloc (.cells #[.slice A n c] 41)) (w.alloc (.cells #[.slice A n c] 41)).heap.size (some ⟨w.heap.size, 0, none⟩) 1 1 [x] := by
  have hb : Below w.heap.size w (w.alloc (.cells #[.slice A n c] 41)) := (Below.refl _ _).alloc (Nat.le_refl _) _
  refine ⟨rfl, [.slice A n c], (rdV_newP w _ _).mono (by simp), fun j v xs hv hx => ?_⟩
  have : j = 0 := by
    have := (List.getElem?_eq_some_iff.1 hv).1
    simpa using this
  subst this
  simp only [List.getElem?_cons_zero, Option.some.injEq] at hv hx
  subst hv; subst hx
  exact ⟨A, n, c, rfl, ((h.mono hB).below hb).mono hb.size⟩
end Go.Proofs.YtoodhbafleemjaaGreat
