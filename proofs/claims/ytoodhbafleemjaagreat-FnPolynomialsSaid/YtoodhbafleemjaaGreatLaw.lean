/- The contracts of the law package's helpers on []int64: eqInt64S, toInt64S, markInt64S, heldInt64S. -/
import Derived.Test.YtoodhbafleemjaaGreatProg
import Derived.Test.YtoodhbafleemjaaGreatLib
namespace Go.Proofs.YtoodhbafleemjaaGreat
open Go.RowKit
set_option linter.unusedVariables false

theorem Tryz.info_i64 : (Tryz.prog.info? 2).map (fun i => (i.zero, i.size, i.bytes)) = some (some (.int .i64 0), 1, 8) := by kernel_rfl

theorem take_succ_eq {xs ys : List Int} {k : Nat} {x : Int} (h : Hid (xs.take k = ys.take k)) (hx : Hid (xs[k]? = some x)) (hy : Hid (ys[k]? = some x)) : xs.take (k+1) = ys.take (k+1) := by
  rw [take_succ_of hx, take_succ_of hy, h.out]

def RetB (b : Bool) (w : World) (e : Ending) (w' : World) : Prop := e = .returned (.bool b) ∧ ∃ k, w' = w.drewN k

theorem RetB.mk {b b' : Bool} {w w' : World} (h : b' = b) (hk : ∃ k, w' = w.drewN k) : RetB b w (.returned (.bool b')) w' := ⟨by rw [h], hk⟩

def RetS (B n : Nat) (xs : List Int) (w : World) (e : Ending) (w' : World) : Prop := ∃ A c, e = .returned (.slice A n c) ∧ OwnS w' B A n c xs ∧ Below w.heap.size w w'

theorem fill_step {xs : List Int} {k n : Nat} {x : Int} (hx : Hid (xs[k]? = some x)) (hk : k < n) : (xs.take k ++ List.replicate (n - k) 0).set k x = xs.take (k+1) ++ List.replicate (n - (k+1)) 0 := by
  have hlt : k < xs.length := (List.getElem?_eq_some_iff.1 hx.out).1
  rw [take_succ_of hx, List.set_append_right _ _ (by rw [List.length_take]; omega), List.length_take, show k - min k xs.length = 0 from by omega, show n - k = (n - (k+1)) + 1 from by omega, List.replicate_succ]
  simp

/-- what 'mark' lays: k, k + 1, .. -/
def marks (k : Int) (n : Nat) : List Int := (List.range n).map (fun (i : Nat) => k + i)
theorem marks_length (k : Int) (n : Nat) : (marks k n).length = n := by simp [marks]
theorem marks_get {k : Int} {n j : Nat} (h : j < n) : (marks k n)[j]? = some (k + j) := by simp [marks, h]
theorem mark_step {k : Int} {xs : List Int} {j n : Nat} (hn : xs.length = n) (h : j < n) : (marks k j ++ xs.drop j).set j (k + j) = marks k (j+1) ++ xs.drop (j+1) := by
  rw [List.set_append_right _ _ (by rw [marks_length]; omega), marks_length, Nat.sub_self]
  rw [List.drop_eq_getElem_cons (by omega), List.set_cons_zero]
  simp [marks, List.range_succ]

def RetI (x : Int) (w : World) (e : Ending) (w' : World) : Prop := e = .returned (.int .i64 x) ∧ w' = w
theorem RetI.mk {x y : Int} {w : World} (h : y = x) : RetI x w (.returned (.int .i64 y)) w := ⟨by rw [h], rfl⟩

def RetMark (B : Nat) (A : Option Addr) (n c : Nat) (xs : List Int) (x : Int) (w : World) (e : Ending) (w' : World) : Prop :=
  e = .returned (.int .i64 x) ∧ OwnS w' B A n c xs ∧ w.grownBy w' (Value.ownBlock (.slice A n c))
theorem RetMark.mk {B : Nat} {A : Option Addr} {n c : Nat} {xs : List Int} {x y : Int} {w w' : World} (h : y = x) (ho : OwnS w' B A n c xs) (hg : w.grownBy w' (Value.ownBlock (.slice A n c))) :
    RetMark B A n c xs x w (.returned (.int .i64 y)) w' := ⟨by rw [h], ho, hg⟩

theorem grownBy_trans {a b c : World} {row : Option Nat} (h : a.grownBy b row) (k : b.grownBy c row) : a.grownBy c row :=
  ⟨k.os.trans h.os, k.tape.trans h.tape, k.output.trans h.output, Nat.le_trans h.size k.size, fun i hi hne => (k.block i (Nat.lt_of_lt_of_le hi h.size) hne).trans (h.block i hi hne)⟩

/-- What the shells of the laws say of a slice of integers that came in. -/
def IsRow (k : IntKind) (w : World) (a : Option Addr) (len cap : Nat) (zs : List Int) : Prop :=
  (a = none ∧ len = 0 ∧ cap = 0 ∧ zs = []) ∨
  ∃ x, a = some x ∧ len ≤ cap ∧ cap ≤ maxLen ∧ zs.length = cap ∧ (∀ i, i < zs.length → w.cell? (x.add i) = some (.int k (zs.getD i 0))) ∧ ∀ n ∈ zs, (Lit.int k n).wf = true
theorem isRow_rd {w : World} {a : Option Addr} {len cap : Nat} {zs : List Int} (h : IsRow .i64 w a len cap zs) : RdS w w.heap.size a len cap (zs.take len) := by
  rcases h with ⟨rfl, rfl, rfl, rfl⟩ | ⟨x, rfl, h1, _, h3, h4, _⟩
  · exact RdS.nil
  · refine ⟨by rw [List.length_take]; omega, h1, fun j hj => ?_⟩
    rw [List.length_take] at hj
    have hc := h4 j (by omega)
    have hb := World.block_lt_of_cell? w _ hc
    rw [block_of_add] at hb
    refine ⟨x, rfl, hb, ?_⟩
    rw [hc, List.getElem_take]
    simp [List.getD, show j < zs.length by omega]
theorem isRow_wf {w : World} {a : Option Addr} {len cap : Nat} {zs : List Int} (h : IsRow .i64 w a len cap zs) : ∀ n ∈ zs.take len, (Lit.int .i64 n).wf = true := by
  rcases h with ⟨rfl, rfl, rfl, rfl⟩ | ⟨x, rfl, h1, _, h3, h4, h5⟩
  · simp
  · exact fun n hn => h5 n (List.mem_of_mem_take hn)
end Go.Proofs.YtoodhbafleemjaaGreat
