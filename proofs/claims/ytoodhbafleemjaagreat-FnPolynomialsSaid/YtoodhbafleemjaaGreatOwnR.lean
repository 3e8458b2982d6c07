/- Lists of lists whose outer row is owned (for a seat without slices.SortFunc). -/
import Derived.Test.YtoodhbafleemjaaGreatLex
import Derived.Sort.Row
namespace Go.Proofs.YtoodhbafleemjaaGreat
open Go.RowKit
set_option linter.unusedVariables false

/-- The slice at A owns its outer row, from B on; its lists read below BR. -/
structure OwnR (w : World) (B BR : Nat) (A : Option Addr) (n c : Nat) (xss : List (List Int)) : Prop where
  len : xss.length = n
  rows : ∃ vs, OwnV w B 41 A n c vs ∧ ∀ (j : Nat) (v : Value) (xs : List Int), vs[j]? = some v → xss[j]? = some xs → RdVal w BR v xs
theorem OwnR.rd {w : World} {B BR : Nat} {A : Option Addr} {n c : Nat} {xss : List (List Int)} (h : OwnR w B BR A n c xss) (hB : BR ≤ w.heap.size) : RdL w w.heap.size A n c xss := by
  obtain ⟨vs, h1, h2⟩ := h.rows
  exact ⟨h.len, vs, h1.rd, fun j v xs hv hx => (h2 j v xs hv hx).mono hB⟩
theorem OwnR.below {w w' : World} {B BR : Nat} {A : Option Addr} {n c : Nat} {xss : List (List Int)} (h : OwnR w B BR A n c xss) (hB : BR ≤ w.heap.size) (hb : Below w.heap.size w w') : OwnR w' B BR A n c xss := by
  obtain ⟨vs, h1, h2⟩ := h.rows
  exact ⟨h.len, vs, h1.below hb, fun j v xs hv hx => (h2 j v xs hv hx).below (hb.mono hB)⟩

def apartV (vs : List Value) : Prop := vs.Pairwise fun u v => ∀ g, u.ownBlock = some g → v.ownBlock ≠ some g
theorem apartV_iff {vs : List Value} : apartV vs ↔ ∀ (i j : Nat) (u v : Value) (g : Nat), i < j → vs[i]? = some u → vs[j]? = some v → u.ownBlock = some g → v.ownBlock ≠ some g := by
  unfold apartV
  rw [List.pairwise_iff_getElem]
  constructor
  · intro h i j u v g hij hu hv
    obtain ⟨hi, rfl⟩ := List.getElem?_eq_some_iff.1 hu
    obtain ⟨hj, rfl⟩ := List.getElem?_eq_some_iff.1 hv
    exact h i j hi hj hij g
  · intro h i j hi hj hij g
    exact h i j _ _ g hij (List.getElem?_eq_getElem hi) (List.getElem?_eq_getElem hj)
theorem apartV_perm {us vs : List Value} (hp : us.Perm vs) (h : apartV vs) : apartV us :=
  (hp.pairwise_iff (fun {a b} hab g hb ha => hab g ha hb)).2 h

end Go.Proofs.YtoodhbafleemjaaGreat
