/- The law package's helpers on Module. -/
import Derived.Test.YtoodhbafleemjaaGreatPly
namespace Go.Proofs.YtoodhbafleemjaaGreat
open Go.RowKit
set_option linter.unusedVariables false

/-- owned integers, the block below K -/
structure OwnG (w : World) (B K : Nat) (A : Option Addr) (n c : Nat) (xs : List Int) : Prop where
  own : OwnS w B A n c xs
  out : ∀ g, Value.ownBlock (.slice A n c) = some g → g < K
theorem OwnG.below {w w' : World} {B K : Nat} {A : Option Addr} {n c : Nat} {xs : List Int} (h : OwnG w B K A n c xs) (hb : Below w.heap.size w w') : OwnG w' B K A n c xs := ⟨h.own.below hb, h.out⟩
theorem OwnG.mono {w : World} {B B' K K' : Nat} {A : Option Addr} {n c : Nat} {xs : List Int} (h : OwnG w B K A n c xs) (hb : B' ≤ B) (hk : K ≤ K') : OwnG w B' K' A n c xs := ⟨h.own.mono hb, fun g hg => Nat.lt_of_lt_of_le (h.out g hg) hk⟩
theorem OwnS.g {w : World} {B : Nat} {A : Option Addr} {n c : Nat} {xs : List Int} (h : OwnS w B A n c xs) : OwnG w B w.heap.size A n c xs := ⟨h, fun g hg => (h.own.lt g hg).2⟩
theorem OwnG.same {w w' : World} {B K : Nat} {A : Option Addr} {n c : Nat} {xs : List Int} (h : OwnG w B K A n c xs) (hs : ∀ g, B ≤ g → g < K → w'.heap[g]? = w.heap[g]?) : OwnG w' B K A n c xs :=
  ⟨⟨h.own.len, ownsRow_same h.own.own fun g hg => hs g (h.own.own.lt g hg).1 (h.out g hg)⟩, h.out⟩
theorem OwnG.apart {w w' : World} {B K B' K' : Nat} {A : Option Addr} {n c : Nat} {xs : List Int} (h : OwnG w B' K' A n c xs) (m : Mid B K w w') (hh : K ≤ B' ∨ K' ≤ B) : OwnG w' B' K' A n c xs := by
  refine ⟨⟨h.own.len, ownsRow_same h.own.own fun g hg => ?_⟩, h.out⟩
  have h1 := h.own.own.lt g hg
  have h2 := h.out g hg
  exact m.block g h1.2 (by omega)
theorem OwnM.apart {w w' : World} {B K B' K' : Nat} {A : Option Addr} {n c : Nat} {xss : List (List Int)} (h : OwnM w B' K' A n c xss) (m : Mid B K w w') (hw : K' ≤ w.heap.size) (hh : K ≤ B' ∨ K' ≤ B) : OwnM w' B' K' A n c xss :=
  h.same fun g h1 h2 => m.block g (by omega) (by omega)
theorem Mid.wide {B K B' K' : Nat} {w w' : World} (h : Mid B K w w') (h1 : B' ≤ B) (h2 : K ≤ K') : Mid B' K' w w' := ⟨h.os, h.tape, h.output, h.size, fun i hi ho => h.block i hi (by omega)⟩
theorem Mid.ofGrown {B K : Nat} {w w' : World} {row : Option Nat} (k : w.grownBy w' row) (hr : ∀ g, row = some g → B ≤ g ∧ g < K) : Mid B K w w' := (Mid.refl B K w).grown k hr
theorem OwnG.nil {w : World} {B K : Nat} : OwnG w B K none 0 0 [] := ⟨OwnS.nil, fun g hg => by cases hg⟩

def RetMarkMod (B K K2 : Nat) (A1 A2 : Option Addr) (n c1 m c2 : Nat) (xs : List Int) (ys : List (List Int)) (x : Int) (w : World) (e : Ending) (w' : World) : Prop :=
  e = .returned (.int .i64 x) ∧ OwnG w' B K A1 n c1 xs ∧ OwnM w' K K2 A2 m c2 ys ∧ Mid B K2 w w'
end Go.Proofs.YtoodhbafleemjaaGreat
