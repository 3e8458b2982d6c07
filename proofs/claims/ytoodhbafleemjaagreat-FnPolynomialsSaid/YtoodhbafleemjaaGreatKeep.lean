/- Worlds in which every block of cells stays: what maps and their iterators are written for. -/
import Derived.Test.YtoodhbafleemjaaGreatMapP
import Derived.Test.YtoodhbafleemjaaGreatPush
import Derived.Test.YtoodhbafleemjaaGreatFrC
namespace Go.Proofs.YtoodhbafleemjaaGreat
open Go.RowKit
set_option linter.unusedVariables false

/-- every block of cells stays what it is -/
structure KeptC (w w' : World) : Prop where
  os : w'.os = w.os
  tape : w'.tape = w.tape
  output : w'.output = w.output
  size : w.heap.size ≤ w'.heap.size
  blk : ∀ (k : Nat) (cs : Array Value) (E : TypeId) (f : Nat × Nat), w.heap[k]? = some (Obj.cells cs E f) → w'.heap[k]? = w.heap[k]?
theorem KeptC.refl (w : World) : KeptC w w := ⟨rfl, rfl, rfl, Nat.le_refl _, fun _ _ _ _ _ => rfl⟩
theorem KeptC.trans {a b c : World} (h : KeptC a b) (k : KeptC b c) : KeptC a c :=
  ⟨k.os.trans h.os, k.tape.trans h.tape, k.output.trans h.output, Nat.le_trans h.size k.size, fun i cs E f e => by
    have h1 := h.blk i cs E f e
    rw [k.blk i cs E f (h1.trans e), h1]⟩
theorem KeptC.of_below {w w' : World} (h : Below w.heap.size w w') : KeptC w w' :=
  ⟨h.os, h.tape, h.output, h.size, fun k cs E f e => h.block k (Array.getElem?_eq_some_iff.1 e).1⟩
/-- only the block b is written, and it is none of cells -/
theorem KeptC.of_grown {w w' : World} {b : Nat} (h : w.grownBy w' (some b)) (hb : ∀ (cs : Array Value) (E : TypeId) (f : Nat × Nat), w.heap[b]? ≠ some (Obj.cells cs E f)) : KeptC w w' :=
  ⟨h.os, h.tape, h.output, h.size, fun k cs E f e => h.block k (Array.getElem?_eq_some_iff.1 e).1 (by intro e'; injection e' with e'; subst e'; exact hb _ _ _ e)⟩
theorem OwnP.noCells {w : World} {b : Nat} {L : List Int} (h : OwnP w b L) : ∀ (cs : Array Value) (E : TypeId) (f : Nat × Nat), w.heap[b]? ≠ some (Obj.cells cs E f) := by
  obtain ⟨D, ⟨es, clock, hb, _⟩, _⟩ := h.map
  intro cs E f e
  rw [hb] at e; cases e
theorem RanP.noCells {w : World} {b r : Nat} {L V : List Int} (h : RanP w b r L V) : ∀ (cs : Array Value) (E : TypeId) (f : Nat × Nat), w.heap[r]? ≠ some (Obj.cells cs E f) := by
  obtain ⟨D, left, cnt, ⟨es, clock, since, seen, c0, _, _, _, _, hr, _⟩, _⟩ := h.r
  intro cs E f e
  rw [hr] at e; cases e
theorem KeptC.cell {w w' : World} (h : KeptC w w') {a : Addr} {v : Value} (hc : w.cell? a = some v) : w'.cell? a = some v := by
  have : w'.heap[a.block]? = w.heap[a.block]? := by
    unfold World.cell? at hc
    split at hc
    · rename_i cs E f e; exact h.blk _ _ _ _ e
    · cases hc
  rw [World.cell?_of_block this]; exact hc
theorem KeptC.frozen {w w' : World} (h : KeptC w w') {a : Addr} {v : Value} (hc : w.cell? a = some v) : w'.frozen? a = w.frozen? a := by
  have : w'.heap[a.block]? = w.heap[a.block]? := by
    unfold World.cell? at hc
    split at hc
    · rename_i cs E f e; exact h.blk _ _ _ _ e
    · cases hc
  exact World.frozen?_of_block this
theorem RdS.keptC {w w' : World} {B : Nat} {A : Option Addr} {n c : Nat} {xs : List Int} (h : RdS w B A n c xs) (k : KeptC w w') : RdS w' B A n c xs :=
  ⟨h.len, h.cap, fun j hj => by
    obtain ⟨ad, e, hlt, hc⟩ := h.cell j hj
    exact ⟨ad, e, hlt, k.cell hc⟩⟩
theorem RdV.keptC {w w' : World} {B : Nat} {A : Option Addr} {n c : Nat} {xs : List Value} (h : RdV w B A n c xs) (k : KeptC w w') : RdV w' B A n c xs :=
  ⟨h.len, h.cap, fun j hj => by
    obtain ⟨ad, e, hlt, hc⟩ := h.cell j hj
    exact ⟨ad, e, hlt, k.cell hc⟩⟩
theorem RdL.keptC {w w' : World} {B : Nat} {A : Option Addr} {n c : Nat} {xss : List (List Int)} (h : RdL w B A n c xss) (k : KeptC w w') : RdL w' B A n c xss := by
  obtain ⟨vs, h1, h2⟩ := h.rows
  exact ⟨h.len, vs, h1.keptC k, fun j v xs hv hx => by
    obtain ⟨A, n, c, rfl, h3⟩ := h2 j v xs hv hx; exact ⟨A, n, c, rfl, h3.keptC k⟩⟩
theorem ownsRow_keptC {w w' : World} {B E s n : Nat} {v : Value} {xs : List Value} (h : w.ownsRow B E s v n xs) (k : KeptC w w') : w'.ownsRow B E s v n xs := by
  obtain ⟨h1, h2⟩ := h
  refine ⟨h1, ?_⟩
  rcases h2 with h2 | ⟨g, cap, cur, e, hB, hh, r⟩
  · exact .inl h2
  · exact .inr ⟨g, cap, cur, e, hB, (k.blk _ _ _ _ hh).trans hh, r⟩
theorem OwnS.keptC {w w' : World} {B : Nat} {A : Option Addr} {n c : Nat} {xs : List Int} (h : OwnS w B A n c xs) (k : KeptC w w') : OwnS w' B A n c xs := ⟨h.len, ownsRow_keptC h.own k⟩
theorem OwnV.keptC {w w' : World} {B E : Nat} {A : Option Addr} {n c : Nat} {xs : List Value} (h : OwnV w B E A n c xs) (k : KeptC w w') : OwnV w' B E A n c xs := ⟨h.len, ownsRow_keptC h.own k⟩
theorem OwnL.keptC {w w' : World} {B K : Nat} {A : Option Addr} {n c : Nat} {xss : List (List Int)} (h : OwnL w B K A n c xss) (k : KeptC w w') : OwnL w' B K A n c xss := by
  obtain ⟨vs, h1, h2, h3⟩ := h.rows
  exact ⟨h.len, vs, h1.keptC k, fun j v xs hv hx => by
    obtain ⟨A, n, c, rfl, h4, h5⟩ := h2 j v xs hv hx
    exact ⟨A, n, c, rfl, h4.keptC k, h5⟩, h3⟩
theorem OwnM.keptC {w w' : World} {B K : Nat} {A : Option Addr} {n c : Nat} {xss : List (List Int)} (h : OwnM w B K A n c xss) (k : KeptC w w') : OwnM w' B K A n c xss := ⟨h.own.keptC k, h.out⟩
theorem Cells.keptC {L : List (Nat × Nat × Value)} {w w' : World} (h : Cells L w) (k : KeptC w w') : Cells L w' :=
  ⟨fun x hx => k.cell (h.c x hx), fun x hx => (k.frozen (h.c x hx)).trans (h.f x hx), fun x hx => Nat.lt_of_lt_of_le (h.lt x hx) k.size⟩
/-- lists of one's own, while a map or an iterator from B on is written -/
theorem StL.turned {w0 w w' : World} {B K n c b : Nat} {A : Option Addr} {xss : List (List Int)} (h : StL w0 B w K A n c xss) (hg : w.grownBy w' (some b)) (hb : B ≤ b) (hn : ∀ (cs : Array Value) (E : TypeId) (f : Nat × Nat), w.heap[b]? ≠ some (Obj.cells cs E f)) : StL w0 B w' K A n c xss :=
  ⟨h.own.keptC (KeptC.of_grown hg hn), h.bel.trans (below_grownBy hg hb h.size), h.lo, Nat.le_trans h.hi hg.size⟩
end Go.Proofs.YtoodhbafleemjaaGreat
