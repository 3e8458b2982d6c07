/- What a law's walk carries from world to world: items, each with the stretch of blocks that it hangs on. -/
import Derived.Test.YtoodhbafleemjaaGreatFr
import Derived.Deep.RegionHeld3
import Derived.Deep.DeepCutAuto
namespace Go.Proofs.YtoodhbafleemjaaGreat
open Go.RowKit
set_option linter.unusedVariables false

/-- only new blocks -/
abbrev Ext (w w' : World) : Prop := Below w.heap.size w w'
theorem Ext.refl (w : World) : Ext w w := Below.refl _ _
theorem Ext.trans {a b c : World} (h : Ext a b) (k : Ext b c) : Ext a c := Below.trans h (Below.mono k h.size)
theorem Ext.alloc {a b : World} (h : Ext a b) (o : Obj) : Ext a (b.alloc o) := Below.alloc h h.size o
theorem Ext.drew {a b : World} (h : Ext a b) : Ext a b.drew := below_drewN h 1

structure It (lo hi : Nat) (P : World → Prop) (w : World) : Prop where
  holds : P w
  le : hi ≤ w.heap.size
  stable : ∀ w' : World, w.heap.size ≤ w'.heap.size → w'.os = w.os → w'.tape = w.tape → w'.output = w.output → (∀ g, lo ≤ g → g < hi → w'.heap[g]? = w.heap[g]?) → P w'
theorem It.to {lo hi : Nat} {P : World → Prop} {w w' : World} (h : It lo hi P w) (h1 : w.heap.size ≤ w'.heap.size) (h2 : w'.os = w.os) (h3 : w'.tape = w.tape) (h4 : w'.output = w.output) (h5 : ∀ g, lo ≤ g → g < hi → w'.heap[g]? = w.heap[g]?) : It lo hi P w' :=
  ⟨h.stable w' h1 h2 h3 h4 h5, Nat.le_trans h.le h1, fun w2 k1 k2 k3 k4 k5 => h.stable w2 (Nat.le_trans h1 k1) (k2.trans h2) (k3.trans h3) (k4.trans h4) fun g a b => (k5 g a b).trans (h5 g a b)⟩
theorem It.ext {lo hi : Nat} {P : World → Prop} {w w' : World} (h : It lo hi P w) (x : Ext w w') : It lo hi P w' := h.to x.size x.os x.tape x.output fun g _ hg => x.block g (Nat.lt_of_lt_of_le hg h.le)
theorem It.mid {lo hi B K : Nat} {P : World → Prop} {w w' : World} (h : It lo hi P w) (m : Mid B K w w') (hh : hi ≤ B ∨ K ≤ lo) : It lo hi P w' :=
  h.to m.size m.os m.tape m.output fun g h1 h2 => m.block g (Nat.lt_of_lt_of_le h2 h.le) (by omega)

theorem It.var {w : World} {b : Nat} {o : Obj} (h : w.heap[b]? = some o) : It b (b + 1) (fun W => W.heap[b]? = some o) w :=
  ⟨h, (Array.getElem?_eq_some_iff.1 h).1, fun w' _ _ _ _ hs => (hs b (Nat.le_refl _) (Nat.lt_succ_self _)).trans h⟩
theorem It.cell {w : World} {b i : Nat} {cs : Array Value} {T : TypeId} {v : Value} (h : It b (b + 1) (fun W => W.heap[b]? = some (.cells cs T (0, 0))) w) (hv : cs[i]? = some v) : w.cell? ⟨b, i, none⟩ = some v := by
  simp [World.cell?, h.holds, hv]
theorem It.rdL {w : World} {B n c : Nat} {A : Option Addr} {xss : List (List Int)} (h : RdL w B A n c xss) (hB : B ≤ w.heap.size) : It 0 B (fun W => RdL W B A n c xss) w :=
  ⟨h, hB, fun w' h1 h2 h3 h4 h5 => h.below ⟨h2, h3, h4, h1, fun k hk => h5 k (Nat.zero_le _) hk⟩⟩
theorem It.fin {w W : World} {b : Nat} (h : Below b w W) (hb : b ≤ w.heap.size) : It 0 b (fun V => Below b w V) W :=
  ⟨h, Nat.le_trans hb h.size, fun w' h1 h2 h3 h4 h5 => h.trans ⟨h2, h3, h4, h1, fun k hk => h5 k (Nat.zero_le _) hk⟩⟩
theorem OwnM.same {w w' : World} {B K n c : Nat} {A : Option Addr} {xss : List (List Int)} (h : OwnM w B K A n c xss) (hs : ∀ g, B ≤ g → g < K → w'.heap[g]? = w.heap[g]?) : OwnM w' B K A n c xss := by
  obtain ⟨vs, h1, h2, h3⟩ := h.own.rows
  refine ⟨⟨h.own.len, vs, ⟨h1.len, ownsRow_same h1.own fun g hg => hs g (h1.own.lt g hg).1 (h.out g hg)⟩, fun j v xs hv hx => ?_, h3⟩, h.out⟩
  obtain ⟨A', n', c', rfl, ho, hk⟩ := h2 j v xs hv hx
  exact ⟨A', n', c', rfl, ⟨ho.len, ownsRow_same ho.own fun g hg => hs g (ho.own.lt g hg).1 (hk g hg)⟩, hk⟩
theorem It.ownM {w : World} {B K n c : Nat} {A : Option Addr} {xss : List (List Int)} (h : OwnM w B K A n c xss) (hK : K ≤ w.heap.size) : It B K (fun W => OwnM W B K A n c xss) w :=
  ⟨h, hK, fun w' h1 h2 h3 h4 h5 => h.same h5⟩

/-- a new variable -/
theorem var_new {u W : World} {b : Nat} {cs : Array Value} {T : TypeId} (hw : W = u.alloc (.cells cs T)) (hb : b = u.heap.size) : It b (b + 1) (fun V => V.heap[b]? = some (.cells cs T (0, 0))) W := It.var (by subst hw; subst hb; exact heap_alloc_new _ _)
theorem ext_new {u W : World} {o : Obj} (hw : W = u.alloc o) : Ext u W := by subst hw; exact (Ext.refl _).alloc _
theorem size_new {u W : World} {b : Nat} {o : Obj} (hw : W = u.alloc o) (hb : b = u.heap.size) : W.heap.size = b + 1 := by subst hw; subst hb; simp
theorem lt_alloc_of {w : World} {o : Obj} {b : Nat} (h : b < w.heap.size) : b < (w.alloc o).heap.size := by simp; omega
theorem RdL.alloc {w : World} {A : Option Addr} {n c : Nat} {xss : List (List Int)} (h : RdL w w.heap.size A n c xss) (o : Obj) : RdL (w.alloc o) (w.alloc o).heap.size A n c xss :=
  (h.below ((Below.refl _ _).alloc (Nat.le_refl _) o)).mono (by simp)
/-- a variable that was made before the answer came, then filled -/
theorem var_set {w0 U w2 w3 : World} {cs cs' : Array Value} {T : TypeId} {A : Option Addr} {n c : Nat} {xs : List (List Int)} {W : World} (e1 : Ext w0 U) (e2 : Ext (U.alloc (.cells cs T)) w2) (e3 : Ext w2 w3) (o : OwnM w3 w2.heap.size w3.heap.size A n c xs)
    (hW : W.os = w3.os ∧ W.tape = w3.tape ∧ W.output = w3.output ∧ W.heap.size = w3.heap.size ∧ (∀ g, g ≠ U.heap.size → W.heap[g]? = w3.heap[g]?)) (hv : w3.heap[U.heap.size]? = some (.cells cs T (0, 0)) → W.heap[U.heap.size]? = some (.cells cs' T (0, 0))) :
    W.heap[U.heap.size]? = some (.cells cs' T (0, 0)) ∧ RdL W W.heap.size A n c xs ∧ Ext w0 W := by
  have hU : U.heap.size < (U.alloc (.cells cs T)).heap.size := by simp
  have hU2 : U.heap.size + 1 ≤ w2.heap.size := by have := e2.size; simpa using this
  have hU3 := e3.size
  have h0 : (U.alloc (.cells cs T)).heap[U.heap.size]? = some (.cells cs T (0, 0)) := heap_alloc_new _ _
  have h3 : w3.heap[U.heap.size]? = some (.cells cs T (0, 0)) := (e3.block _ (Nat.lt_of_lt_of_le hU e2.size)).trans ((e2.block _ hU).trans h0)
  have m : Mid U.heap.size (U.heap.size + 1) w3 W := ⟨hW.1, hW.2.1, hW.2.2.1, Nat.le_of_eq hW.2.2.2.1.symm, fun i _ hi => hW.2.2.2.2 i (by omega)⟩
  refine ⟨hv h3, ?_, ?_⟩
  · have := (o.mid m hU2).own.rd
    exact this
  · have hle : w0.heap.size ≤ w3.heap.size := Nat.le_trans e1.size (Nat.le_trans (by simp) (Nat.le_trans e2.size e3.size))
    exact Below.trans (((Ext.trans e1 ((Ext.refl U).alloc _)).trans e2).trans e3) ((m.below (by omega)).mono e1.size)
theorem setCell_at {w : World} {b i : Nat} {cs : Array Value} {T : TypeId} (v : Value) (h : w.heap[b]? = some (.cells cs T (0, 0))) : (w.setCell ⟨b, i, none⟩ v).heap[b]? = some (.cells (cs.setIfInBounds i v) T (0, 0)) := by
  rw [Sort.setCell_eq]
  simp [Sort.mapBlock, Array.getElem?_modify, h, Sort.onCells]
theorem setCell_off {w : World} {b i : Nat} (v : Value) : (w.setCell ⟨b, i, none⟩ v).os = w.os ∧ (w.setCell ⟨b, i, none⟩ v).tape = w.tape ∧ (w.setCell ⟨b, i, none⟩ v).output = w.output ∧ (w.setCell ⟨b, i, none⟩ v).heap.size = w.heap.size ∧ ∀ g, g ≠ b → (w.setCell ⟨b, i, none⟩ v).heap[g]? = w.heap[g]? :=
  ⟨rfl, rfl, rfl, by rw [Sort.setCell_eq]; simp [Sort.mapBlock], fun g hg => Below.heap_setCell w _ v g hg⟩
theorem setCell_off2 {w : World} {b i j : Nat} (u v : Value) : ((w.setCell ⟨b, i, none⟩ u).setCell ⟨b, j, none⟩ v).os = w.os ∧ ((w.setCell ⟨b, i, none⟩ u).setCell ⟨b, j, none⟩ v).tape = w.tape ∧ ((w.setCell ⟨b, i, none⟩ u).setCell ⟨b, j, none⟩ v).output = w.output ∧ ((w.setCell ⟨b, i, none⟩ u).setCell ⟨b, j, none⟩ v).heap.size = w.heap.size ∧ ∀ g, g ≠ b → ((w.setCell ⟨b, i, none⟩ u).setCell ⟨b, j, none⟩ v).heap[g]? = w.heap[g]? := by
  obtain ⟨_, _, _, h4, h5⟩ := setCell_off (w := w) (b := b) (i := i) u
  obtain ⟨_, _, _, k4, k5⟩ := setCell_off (w := w.setCell ⟨b, i, none⟩ u) (b := b) (i := j) v
  exact ⟨rfl, rfl, rfl, k4.trans h4, fun g hg => (k5 g hg).trans (h5 g hg)⟩
def RetBIC (v : Bool) (k : Int) (w : World) (e : Ending) (w' : World) : Prop := e = .returned (.tuple #[.bool v, .int .i64 k]) ∧ Ext w w'
def RetIIC (v : Int) (k : Int) (w : World) (e : Ending) (w' : World) : Prop := e = .returned (.tuple #[.int .i64 v, .int .i64 k]) ∧ Ext w w'
theorem RetBIC.mk {v v' : Bool} {k k' : Int} {w w' : World} (h1 : v' = v) (h2 : k' = k) (x : Ext w w') : RetBIC v k w (.returned (.tuple #[.bool v', .int .i64 k'])) w' := by subst h1; subst h2; exact ⟨rfl, x⟩
theorem RetIIC.mk {v v' : Int} {k k' : Int} {w w' : World} (h1 : v' = v) (h2 : k' = k) (x : Ext w w') : RetIIC v k w (.returned (.tuple #[.int .i64 v', .int .i64 k'])) w' := by subst h1; subst h2; exact ⟨rfl, x⟩
end Go.Proofs.YtoodhbafleemjaaGreat
