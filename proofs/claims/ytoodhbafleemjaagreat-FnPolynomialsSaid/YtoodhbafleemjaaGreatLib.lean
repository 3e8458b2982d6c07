/- Words of my own for slices of integers, read or owned, and lemmas on them. No function of the program is named here. -/
import Derived.WalkKit
import Derived.ProofKit
import Derived.Outline
import Derived.WalkSpells
import Derived.Deep.QuietTactic
import Derived.BigQuiet
import Derived.Lib.Hide
import Derived.Deep.LoopGhost
import Derived.Deep.AppendLies
import Derived.Deep.Onto
import Derived.Deep.Draws
namespace Go.Proofs.YtoodhbafleemjaaGreat
open Go.RowKit

theorem block_of_add (a : Addr) (n : Nat) : (a.add n).block = a.block := by unfold Addr.add; split <;> rfl
theorem add_of_add (a : Addr) (i j : Nat) : (a.add i).add j = a.add (i + j) := by
  unfold Addr.add
  by_cases hi : i = 0 <;> by_cases hj : j = 0 <;> simp [hi, hj, Nat.add_assoc]

/-- The slice at A, of n elements and capacity c, reads as the integers xs, below block B. -/
structure RdS (w : World) (B : Nat) (A : Option Addr) (n c : Nat) (xs : List Int) : Prop where
  len : xs.length = n
  cap : n ≤ c
  cell : ∀ j (h : j < xs.length), ∃ ad, A = some ad ∧ ad.block < B ∧ w.cell? (ad.add j) = some (.int .i64 xs[j])

theorem RdS.below {w w' : World} {B : Nat} {A : Option Addr} {n c : Nat} {xs : List Int} (h : RdS w B A n c xs) (hb : Below B w w') : RdS w' B A n c xs :=
  ⟨h.len, h.cap, fun j hj => by
    obtain ⟨ad, e, hlt, hc⟩ := h.cell j hj
    exact ⟨ad, e, hlt, (hb.cell (by rw [block_of_add]; exact hlt)).trans hc⟩⟩
theorem RdS.mono {w : World} {B B' : Nat} {A : Option Addr} {n c : Nat} {xs : List Int} (h : RdS w B A n c xs) (hb : B ≤ B') : RdS w B' A n c xs :=
  ⟨h.len, h.cap, fun j hj => by
    obtain ⟨ad, e, hlt, hc⟩ := h.cell j hj
    exact ⟨ad, e, by omega, hc⟩⟩
theorem RdS.drewN {w : World} {B : Nat} {A : Option Addr} {n c : Nat} {xs : List Int} (h : RdS w B A n c xs) (k : Nat) : RdS (w.drewN k) B A n c xs := ⟨h.len, h.cap, h.cell⟩
theorem RdS.nil {w : World} {B : Nat} : RdS w B none 0 0 [] := ⟨rfl, Nat.le_refl _, fun j h => absurd h (by simp)⟩
theorem RdS.at_ {w : World} {B : Nat} {A : Option Addr} {n c : Nat} {xs : List Int} (h : RdS w B A n c xs) {k : Nat} (hk : k < n) :
    ∃ ad x, A = some ad ∧ ad.block < B ∧ Hid (xs[k]? = some x) ∧ w.cell? (ad.add k) = some (.int .i64 x) := by
  have hk' : k < xs.length := by rw [h.len]; exact hk
  obtain ⟨ad, e, hlt, hc⟩ := h.cell k hk'
  exact ⟨ad, xs[k], e, hlt, Lib.hid (List.getElem?_eq_getElem hk'), hc⟩

/-- The slice at A owns the integers xs in a block of its own from B on. -/
structure OwnS (w : World) (B : Nat) (A : Option Addr) (n c : Nat) (xs : List Int) : Prop where
  len : xs.length = n
  own : w.ownsRow B 2 1 (.slice A n c) n (xs.map (.int .i64))

theorem OwnS.lt {w : World} {B : Nat} {A : Option Addr} {n c : Nat} {xs : List Int} (h : OwnS w B A n c xs) {ad : Addr} (hA : A = some ad) : B ≤ ad.block ∧ ad.block < w.heap.size := by
  subst hA; exact h.own.lt _ rfl
theorem OwnS.cap {w : World} {B : Nat} {A : Option Addr} {n c : Nat} {xs : List Int} (h : OwnS w B A n c xs) : n ≤ c ∧ c ≤ maxLen := by
  rcases h.own.2 with ⟨e, rfl⟩ | ⟨g, cap, cur, e, _, _, h1, h2, _⟩
  · injection e with _ _ e3; subst e3; exact ⟨Nat.le_refl _, Nat.zero_le _⟩
  · injection e with _ _ e3; subst e3; exact ⟨h1, h2⟩
theorem OwnS.rd {w : World} {B : Nat} {A : Option Addr} {n c : Nat} {xs : List Int} (h : OwnS w B A n c xs) : RdS w w.heap.size A n c xs := by
  refine ⟨h.len, h.cap.1, fun j hj => ?_⟩
  have hn : 0 < n := by have := h.len; omega
  obtain ⟨g, cap, hv, _, hlt⟩ := h.own.form hn
  injection hv with hA
  subst hA
  exact ⟨_, rfl, hlt, h.own.cells (g := g) rfl j _ (by simp)⟩
theorem OwnS.grown {w w' : World} {B : Nat} {A : Option Addr} {n c : Nat} {xs : List Int} {row : Option Nat} (h : OwnS w B A n c xs) (hg : w.grownBy w' row) (hne : ∀ ad, A = some ad → some ad.block ≠ row) : OwnS w' B A n c xs :=
  ⟨h.len, h.own.kept hg (by cases A with | none => exact .inl rfl | some ad => exact .inr (hne ad rfl))⟩
theorem grown_of_below {a w : World} (h : Below a.heap.size a w) (row : Option Nat) : a.grownBy w row := ⟨h.os, h.tape, h.output, h.size, fun i hi _ => h.block i hi⟩
theorem OwnS.below {w w' : World} {B : Nat} {A : Option Addr} {n c : Nat} {xs : List Int} (h : OwnS w B A n c xs) (hb : Below w.heap.size w w') : OwnS w' B A n c xs := h.grown (row := none) (grown_of_below hb none) (by simp)
theorem OwnS.mono {w : World} {B B' : Nat} {A : Option Addr} {n c : Nat} {xs : List Int} (h : OwnS w B A n c xs) (hb : B' ≤ B) : OwnS w B' A n c xs := ⟨h.len, h.own.mono hb⟩
theorem OwnS.alloc {w : World} {B : Nat} {A : Option Addr} {n c : Nat} {xs : List Int} (h : OwnS w B A n c xs) (o : Obj) : OwnS (w.alloc o) B A n c xs := ⟨h.len, h.own.alloc o⟩
theorem OwnS.drewN {w : World} {B : Nat} {A : Option Addr} {n c : Nat} {xs : List Int} (h : OwnS w B A n c xs) (k : Nat) : OwnS (w.drewN k) B A n c xs := ⟨h.len, h.own⟩
theorem OwnS.nil {w : World} {B : Nat} : OwnS w B none 0 0 [] := ⟨rfl, by simpa using World.ownsRow_nil w B _ 1⟩
/-- What a store needs to know of an owned slice: its block, the cell, that it is not frozen. -/
theorem OwnS.at_ {w : World} {B : Nat} {A : Option Addr} {n c : Nat} {xs : List Int} (h : OwnS w B A n c xs) {k : Nat} (hk : k < n) :
    ∃ g x, A = some ⟨g, 0, none⟩ ∧ B ≤ g ∧ g < w.heap.size ∧ Hid (xs[k]? = some x) ∧ w.cell? ⟨g, k, none⟩ = some (.int .i64 x) ∧ w.frozen? ⟨g, k, none⟩ = false ∧
      ∀ u, OwnS (w.setCell ⟨g, k, none⟩ (.int .i64 u)) B (some ⟨g, 0, none⟩) n c (xs.set k u) ∧ w.grownBy (w.setCell ⟨g, k, none⟩ (.int .i64 u)) (some g) := by
  have hk' : k < xs.length := by rw [h.len]; exact hk
  obtain ⟨g, cap, hv, hb, hlt⟩ := h.own.form (by omega)
  injection hv with hA _ hc
  subst hA; subst hc
  refine ⟨g, xs[k], rfl, hb, hlt, Lib.hid (List.getElem?_eq_getElem hk'), ?_, h.own.frozenAt k, fun u => ⟨⟨by simpa using h.len, ?_⟩, (h.own.stored k (.int .i64 u)).2⟩⟩
  · rw [h.own.cellAt k (by omega)]; simp
  · rw [List.map_set]
    exact (h.own.stored k (.int .i64 u)).1

theorem below_drewN {B : Nat} {a w : World} (h : Below B a w) (n : Nat) : Below B a (w.drewN n) := ⟨h.os, h.tape, h.output, h.size, h.block⟩

theorem get_of {xs : List Int} {k : Nat} {x : Int} (h : Hid (xs[k]? = some x)) (hk : k < xs.length) : xs[k] = x := by
  have := h.out; rw [List.getElem?_eq_getElem hk] at this; simpa using this
theorem take_succ_of {xs : List Int} {k : Nat} {x : Int} (h : Hid (xs[k]? = some x)) : xs.take (k+1) = xs.take k ++ [x] := by
  rw [List.take_add_one, h.out]; rfl
theorem mem_of {xs : List Int} {k : Nat} {x : Int} (h : Hid (xs[k]? = some x)) : x ∈ xs := List.mem_of_getElem? h.out

/-- What is read below B stays read while one row from B on is written. -/
theorem RdS.grown {w w' : World} {B : Nat} {A : Option Addr} {n c : Nat} {xs : List Int} {row : Option Nat} (h : RdS w B A n c xs) (hg : w.grownBy w' row) (hB : B ≤ w.heap.size) (hr : ∀ g, row = some g → B ≤ g) : RdS w' B A n c xs :=
  h.below ((Below.refl _ _).grown hg hB hr)
theorem OwnS.row {w : World} {B : Nat} {A : Option Addr} {n c : Nat} {xs : List Int} (h : OwnS w B A n c xs) : ∀ g, Value.ownBlock (.slice A n c) = some g → B ≤ g := fun g hg => (h.own.lt g hg).1

/-- A call that hands back a slice of its own, of n integers xs, and a code. -/
def RetSC (n : Nat) (xs : List Int) (k : Int) (w : World) (e : Ending) (w' : World) : Prop :=
  ∃ A c, e = .returned (.tuple #[.slice A n c, .int .i64 k]) ∧ OwnS w' w.heap.size A n c xs ∧ Below w.heap.size w w'
theorem RetSC.mk {n m c : Nat} {A : Option Addr} {xs ys : List Int} {k k' : Int} {w w' : World} (hk : k' = k) (hm : m = n) (ho : OwnS w' w.heap.size A m c ys) (hxs : ys = xs) (hb : Below w.heap.size w w') :
    RetSC n xs k w (.returned (.tuple #[.slice A m c, .int .i64 k'])) w' := by subst hk; subst hm; subst hxs; exact ⟨A, c, rfl, ho, hb⟩
theorem RetSC.none {k k' : Int} {w w' : World} (hk : k' = k) (hb : Below w.heap.size w w') : RetSC 0 [] k w (.returned (.tuple #[.slice none 0 0, .int .i64 k'])) w' := RetSC.mk hk rfl OwnS.nil rfl hb
theorem RdS.drew {w : World} {B : Nat} {A : Option Addr} {n c : Nat} {xs : List Int} (h : RdS w B A n c xs) : RdS w.drew B A n c xs := ⟨h.len, h.cap, h.cell⟩
theorem OwnS.drew {w : World} {B : Nat} {A : Option Addr} {n c : Nat} {xs : List Int} (h : OwnS w B A n c xs) : OwnS w.drew B A n c xs := ⟨h.len, h.own⟩
/-- a quiet call behind a quiet region -/
theorem quiet_add {P : Program} {f : FuncId} {args : Array Value} {w : World} {a n : Nat} {v : Value}
    (h : Calls P f args (w.drewN (a + n)) fun e w' => e = .returned v ∧ ∃ m, w' = (w.drewN (a + n)).drewN m) :
    Calls P f args (w.drewN (a + n)) fun e w'' => e = .returned v ∧ ∃ m, w'' = w.drewN (a + m) :=
  h.mono fun _ _ ⟨he, m, hm⟩ => ⟨he, n + m, by rw [hm, World.drewN_drewN, Nat.add_assoc]⟩
end Go.Proofs.YtoodhbafleemjaaGreat
