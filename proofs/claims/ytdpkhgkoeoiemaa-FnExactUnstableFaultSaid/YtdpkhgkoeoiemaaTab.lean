/- tableOf: the table of squares of a module. -/
import Derived.Test.YtdpkhgkoeoiemaaTabF
namespace Go.Proofs.Ytdpkhgkoeoiemaa
open Go.RowKit
set_option linter.unusedVariables false

/-- a table of which K rows have been laid -/
structure Tab (w : World) (t n : Nat) (DS : Value) (K : Nat) (g : Nat → Nat) (M : Nat → Nat → Nat) : Prop where
  deg : w.cell? ⟨t, 0, none⟩ = some DS
  rows : ∀ k, k < K → w.cell? ⟨t, 1 + k, none⟩ = some (.slice (some ⟨g k, 0, none⟩) n n)
  more : ∀ k, K ≤ k → k < 21 → w.cell? ⟨t, 1 + k, none⟩ = some (.slice none 0 0)
  fr : ∀ k, k < 22 → w.frozen? ⟨t, k, none⟩ = false
  lt : t < w.heap.size
  at_ : ∀ k i, k < K → i < n → w.cell? ⟨g k, i, none⟩ = some (.int .i64 (M k i : Nat))
  afr : ∀ k i, k < K → i < n → w.frozen? ⟨g k, i, none⟩ = false
  glt : ∀ k, k < K → t < g k ∧ g k < w.heap.size
  inj : ∀ k l, k < K → l < K → g k = g l → k = l
theorem Tab.below {w w' : World} {t n K : Nat} {DS : Value} {g : Nat → Nat} {M : Nat → Nat → Nat} (h : Tab w t n DS K g M) (hb : Below w.heap.size w w') : Tab w' t n DS K g M :=
  ⟨bcell hb h.lt h.deg, fun k hk => bcell hb h.lt (h.rows k hk), fun k hk hk2 => bcell hb h.lt (h.more k hk hk2), fun k hk => bfree hb h.lt (h.fr k hk), Nat.lt_of_lt_of_le h.lt hb.size,
    fun k i hk hi => bcell hb (h.glt k hk).2 (h.at_ k i hk hi), fun k i hk hi => bfree hb (h.glt k hk).2 (h.afr k i hk hi), fun k hk => ⟨(h.glt k hk).1, Nat.lt_of_lt_of_le (h.glt k hk).2 hb.size⟩, h.inj⟩
theorem Tab.congr {w : World} {t n K : Nat} {DS : Value} {g : Nat → Nat} {M M' : Nat → Nat → Nat} (h : Tab w t n DS K g M) (hm : ∀ k i, k < K → i < n → M k i = M' k i) : Tab w t n DS K g M' :=
  ⟨h.deg, h.rows, h.more, h.fr, h.lt, fun k i hk hi => by rw [← hm k i hk hi]; exact h.at_ k i hk hi, h.afr, h.glt, h.inj⟩
theorem setCell_size (w : World) (p : Addr) (v : Value) : (w.setCell p v).heap.size = w.heap.size := by simp [World.setCell]
theorem made_cell (w : World) (n i : Nat) (T : TypeId) (hi : i < n) : (w.alloc (.cells (madeCells #[.int .i64 0] n) T)).cell? ⟨w.heap.size, i, none⟩ = some (.int .i64 0) := by
  refine new_at rfl ?_
  rw [← Array.getElem?_toList, toList_madeCells_one]
  simp [hi]
/-- one more row -/
theorem Tab.row {w : World} {t n K : Nat} {DS : Value} {g : Nat → Nat} {M : Nat → Nat → Nat} {T : TypeId} (h : Tab w t n DS K g M) (hK : K < 21) :
    Tab ((w.alloc (.cells (madeCells #[.int .i64 0] n) T)).setCell ⟨t, 1 + K, none⟩ (.slice (some ⟨w.heap.size, 0, none⟩) n n)) t n DS (K + 1) (fun k => if k = K then w.heap.size else g k) (fun k i => if k = K then 0 else M k i) := by
  have bal := (Below.refl w.heap.size w).alloc (Nat.le_refl _) (.cells (madeCells #[.int .i64 0] n) T)
  have h1 := h.below bal
  have hne : w.heap.size ≠ t := Nat.ne_of_gt h.lt
  refine ⟨?_, fun k hk => ?_, fun k hk hk2 => ?_, fun k hk => ?_, by rw [setCell_size]; exact h1.lt, fun k i hk hi => ?_, fun k i hk hi => ?_, fun k hk => ?_, fun k l hk hl => ?_⟩
  · rw [World.cell?_setCell_other]
    · exact h1.deg
    · simp <;> omega
  · by_cases e : k = K
    · subst e
      rw [World.cell?_setCell_same (u := .slice none 0 0)]
      · simp
      · exact h1.more k (Nat.le_refl _) hK
    · rw [World.cell?_setCell_other]
      · rw [if_neg e]; exact h1.rows k (by omega)
      · simp <;> omega
  · rw [World.cell?_setCell_other]
    · exact h1.more k (by omega) hk2
    · simp <;> omega
  · rw [World.frozen?_setCell]; exact h1.fr k hk
  · by_cases e : k = K
    · subst e
      rw [if_pos rfl, if_pos rfl, World.cell?_setCell_far _ _ _ _ (by simpa using hne.symm)]
      exact made_cell w n i T hi
    · rw [if_neg e, if_neg e, World.cell?_setCell_far _ _ _ _ (by have := (h.glt k (by omega)).1; simp; omega)]
      exact h1.at_ k i (by omega) hi
  · rw [World.frozen?_setCell]
    by_cases e : k = K
    · rw [if_pos e]; exact new_free rfl
    · rw [if_neg e]; exact h1.afr k i (by omega) hi
  · rw [setCell_size]
    by_cases e : k = K
    · rw [if_pos e]; exact ⟨h.lt, by simp⟩
    · rw [if_neg e]; exact h1.glt k (by omega)
  · by_cases e : k = K <;> by_cases e2 : l = K
    · intro _; omega
    · rw [if_pos e, if_neg e2]; intro hh; have := (h.glt l (by omega)).2; omega
    · rw [if_neg e, if_pos e2]; intro hh; have := (h.glt k (by omega)).2; omega
    · rw [if_neg e, if_neg e2]; exact h.inj k l (by omega) (by omega)
/-- an entry is written -/
theorem Tab.set {w : World} {t n K : Nat} {DS : Value} {g : Nat → Nat} {M : Nat → Nat → Nat} (h : Tab w t n DS K g M) {k i m : Nat} (hk : k < K) (hi : i < n) :
    Tab (w.setCell ⟨g k, i, none⟩ (.int .i64 (m : Nat))) t n DS K g (fun k' i' => if k' = k ∧ i' = i then m else M k' i') := by
  have hg := h.glt k hk
  refine ⟨?_, fun l hl => ?_, fun l hl hl2 => ?_, fun l hl => ?_, by rw [setCell_size]; exact h.lt, fun l j hl hj => ?_, fun l j hl hj => ?_, fun l hl => ?_, h.inj⟩
  · rw [World.cell?_setCell_far _ _ _ _ (by simp; omega)]; exact h.deg
  · rw [World.cell?_setCell_far _ _ _ _ (by simp; omega)]; exact h.rows l hl
  · rw [World.cell?_setCell_far _ _ _ _ (by simp; omega)]; exact h.more l hl hl2
  · rw [World.frozen?_setCell]; exact h.fr l hl
  · by_cases e : l = k ∧ j = i
    · obtain ⟨rfl, rfl⟩ := e
      rw [World.cell?_setCell_same (u := .int .i64 (M l j : Nat)), if_pos ⟨rfl, rfl⟩]
      exact h.at_ l j hl hj
    · rw [if_neg e, World.cell?_setCell_other]
      · exact h.at_ l j hl hj
      · intro hh
        injection hh with h1 h2
        exact e ⟨(h.inj k l hk hl h1).symm, h2.symm⟩
  · rw [World.frozen?_setCell]; exact h.afr l j hl hj
  · rw [setCell_size]; exact h.glt l hl
theorem tab_below_set {B : Nat} {w u : World} {p : Addr} {v : Value} (h : Below B w u) (hp : B ≤ p.block) : Below B w (u.setCell p v) := h.setCell hp v

/-- a table, read -/
structure TabR (w : World) (t n : Nat) (DS : Value) (M : Nat → Nat → Nat) : Prop where
  deg : w.cell? ⟨t, 0, none⟩ = some DS
  row : ∀ k, k < 21 → ∃ g, w.cell? ⟨t, 1 + k, none⟩ = some (.slice (some ⟨g, 0, none⟩) n n) ∧ RdS w w.heap.size (some ⟨g, 0, none⟩) n n ((List.range n).map fun i => ((M k i : Nat) : Int))
  lt : t < w.heap.size
theorem TabR.below {w w' : World} {t n : Nat} {DS : Value} {M : Nat → Nat → Nat} (h : TabR w t n DS M) (hb : Below w.heap.size w w') : TabR w' t n DS M :=
  ⟨bcell hb h.lt h.deg, fun k hk => by obtain ⟨g, h1, h2⟩ := h.row k hk; exact ⟨g, bcell hb h.lt h1, (h2.below hb).mono hb.size⟩, Nat.lt_of_lt_of_le h.lt hb.size⟩
end Go.Proofs.Ytdpkhgkoeoiemaa
