/- The law package's helpers on structs with one list of lists (Lambda, Squares, Milnor, Dual). -/
import Derived.Test.YtoodhbafleemjaaGreatMid
import Derived.Test.YtoodhbafleemjaaGreatExc
namespace Go.Proofs.YtoodhbafleemjaaGreat
open Go.RowKit
set_option linter.unusedVariables false

theorem mid_setCell {B K : Nat} {w : World} {p : Addr} (v : Value) (h : B ≤ p.block ∧ p.block < K) : Mid B K w (w.setCell p v) :=
  ⟨rfl, rfl, rfl, by simp [World.setCell], fun i hi ho => Below.heap_setCell w p v i (by omega)⟩
theorem bcell {W w1 : World} (hb : Below W.heap.size W w1) {b o : Nat} {v : Value} (h : b < W.heap.size) (hc : W.cell? ⟨b, o, none⟩ = some v) : w1.cell? ⟨b, o, none⟩ = some v := (hb.cell (p := ⟨b, o, none⟩) h).trans hc
theorem bfree {W w1 : World} (hb : Below W.heap.size W w1) {b o : Nat} (h : b < W.heap.size) (hc : W.frozen? ⟨b, o, none⟩ = false) : w1.frozen? ⟨b, o, none⟩ = false := (hb.frozen (p := ⟨b, o, none⟩) h).trans hc

theorem new_at {w : World} {cs : Array Value} {T : TypeId} {b i : Nat} {v : Value} (hb : b = w.heap.size) (hv : cs[i]? = some v) : (w.alloc (.cells cs T)).cell? ⟨b, i, none⟩ = some v := by subst hb; simp [hv]
theorem new_free {w : World} {cs : Array Value} {T : TypeId} {b i : Nat} (hb : b = w.heap.size) : (w.alloc (.cells cs T)).frozen? ⟨b, i, none⟩ = false := by subst hb; simp
theorem old_at {w : World} {o : Obj} {b i : Nat} {v : Value} (hb : b < w.heap.size) (hv : w.cell? ⟨b, i, none⟩ = some v) : (w.alloc o).cell? ⟨b, i, none⟩ = some v := bcell ((Below.refl _ _).alloc (Nat.le_refl _) _) hb hv
theorem old_free {w : World} {o : Obj} {b i : Nat} (hb : b < w.heap.size) (hv : w.frozen? ⟨b, i, none⟩ = false) : (w.alloc o).frozen? ⟨b, i, none⟩ = false := bfree ((Below.refl _ _).alloc (Nat.le_refl _) _) hb hv

/-- a struct of one owned list of lists comes back -/
def RetM (n : Nat) (xss : List (List Int)) (w : World) (e : Ending) (w' : World) : Prop :=
  ∃ A c, e = .returned (.agg #[.slice A n c]) ∧ OwnM w' w.heap.size w'.heap.size A n c xss ∧ Below w.heap.size w w'
def RetMC (n : Nat) (xss : List (List Int)) (k : Int) (w : World) (e : Ending) (w' : World) : Prop :=
  ∃ A c, e = .returned (.tuple #[.agg #[.slice A n c], .int .i64 k]) ∧ OwnM w' w.heap.size w'.heap.size A n c xss ∧ Below w.heap.size w w'

end Go.Proofs.YtoodhbafleemjaaGreat
