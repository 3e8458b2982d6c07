/- Contracts of the smallest functions: ranges of numbers, conditions on all elements of a list of integers. -/
import Derived.Test.YtoodhbafleemjaaGreatLaw
import Derived.StillTailTactics
namespace Go.Proofs.YtoodhbafleemjaaGreat
open Go.RowKit
set_option linter.unusedVariables false

/-- n is within bounds. -/
def inB (n lo hi : Int) : Bool := decide (lo ≤ n ∧ n ≤ hi)
theorem inB_iff {n lo hi : Int} : inB n lo hi = true ↔ lo ≤ n ∧ n ≤ hi := by simp [inB]
theorem inB_not {n lo hi : Int} : inB n lo hi = false ↔ ¬ (lo ≤ n ∧ n ≤ hi) := by simp [inB]

def RetP (b : Bool) (w : World) (e : Ending) (w' : World) : Prop := e = .returned (.bool b) ∧ w' = w
theorem RetP.mk {b b' : Bool} {w : World} (h : b' = b) : RetP b w (.returned (.bool b')) w := ⟨by rw [h], rfl⟩

/-- A call that answers a bool and writes nothing that was there. -/
def RetBb (b : Bool) (w : World) (e : Ending) (w' : World) : Prop := e = .returned (.bool b) ∧ Below w.heap.size w w'
theorem RetBb.mk {b b' : Bool} {w w' : World} (h : b' = b) (hb : Below w.heap.size w w') : RetBb b w (.returned (.bool b')) w' := ⟨by rw [h], hb⟩
theorem RetP.bb {b : Bool} {w w' : World} {e : Ending} (h : RetP b w e w') : RetBb b w e w' := ⟨h.1, by rw [h.2]; exact Below.refl _ _⟩

theorem in_any (n lo hi : Int) (w : World) : Calls Tryz.prog 91 #[.int .i64 n, .int .i64 lo, .int .i64 hi] w (RetP (inB n lo hi) w) := by
  by_cases h1 : lo ≤ n
  · by_cases h2 : n ≤ hi
    · go_enter Tryz.func91, Tryz.ntmps91
      go_wp2
      go_ret
      exact RetP.mk (b' := true) (by simp [inB, h1, h2])
    · go_enter Tryz.func91, Tryz.ntmps91
      go_wp2
      go_ret
      exact RetP.mk (b' := false) (by simp [inB, h1, h2])
  · go_enter Tryz.func91, Tryz.ntmps91
    go_wp2
    go_ret
    exact RetP.mk (b' := false) (by simp only [inB]; symm; rw [decide_eq_false_iff_not]; omega)

theorem l01In_any (n lo hi : Int) (w : World) : Calls Tryz.prog 72 #[.int .i64 n, .int .i64 lo, .int .i64 hi] w (RetP (inB n lo hi) w) := by
  by_cases h1 : lo ≤ n
  · by_cases h2 : n ≤ hi
    · go_enter Tryz.func72, Tryz.ntmps72
      go_wp2
      go_ret
      exact RetP.mk (b' := true) (by simp [inB, h1, h2])
    · go_enter Tryz.func72, Tryz.ntmps72
      go_wp2
      go_ret
      exact RetP.mk (b' := false) (by simp [inB, h1, h2])
  · go_enter Tryz.func72, Tryz.ntmps72
    go_wp2
    go_ret
    exact RetP.mk (b' := false) (by simp only [inB]; symm; rw [decide_eq_false_iff_not]; omega)

def smallB (n : Int) : Bool := inB n (-1000000000000) 1000000000000

/-! ### all[int64] -/
/-- the first index below n, from k on, at which p holds, or -1 -/
def firstB (p : Nat → Bool) (n : Nat) : Int := match (List.range n).find? p with | some i => i | none => -1
theorem firstB_hit {p : Nat → Bool} {n k : Nat} (hk : k < n) (h0 : ∀ j, j < k → p j = false) (h : p k = true) : firstB p n = k := by
  have : (List.range n).find? p = some k := by
    rw [List.find?_range_eq_some]
    exact ⟨h, by simpa using hk, fun j hj => by simp [h0 j hj]⟩
  simp [firstB, this]
theorem firstB_miss {p : Nat → Bool} {n : Nat} (h0 : ∀ j, j < n → p j = false) : firstB p n = -1 := by
  have : (List.range n).find? p = none := by
    rw [List.find?_eq_none]
    intro j hj
    simp [h0 j (by simpa using hj)]
  simp [firstB, this]
theorem firstB_ge {p : Nat → Bool} {n : Nat} : (decide ((0 : Int) ≤ firstB p n)) = (List.range n).any p := by
  unfold firstB
  cases h : (List.range n).find? p with
  | none =>
    have : (List.range n).any p = false := by
      rw [List.any_eq_false]; exact fun x hx => by simpa using List.find?_eq_none.1 h x hx
    simp [this]
  | some i =>
    have : (List.range n).any p = true := by
      rw [List.any_eq_true]; exact ⟨i, List.mem_of_find?_eq_some h, List.find?_some h⟩
    simp [this]

/-- What is known of a condition that is handed in as a function value: at each element it answers p, and writes nothing that was there. -/
structure Cond (fid : Nat) (cs : Array Value) (vs : List Value) (p : Nat → Bool) (w : World) : Prop where
  enters : ∀ args w, (callFunc fid args).run Tryz.prog w = .ok (.enter fid args) w
  calls : ∀ j v, vs[j]? = some v → ∀ w', Below w.heap.size w w' → Calls Tryz.prog fid (#[v] ++ cs) w' (RetBb (p j) w')
theorem Cond.below {fid : Nat} {cs : Array Value} {vs : List Value} {p : Nat → Bool} {w w1 : World} (h : Cond fid cs vs p w) (hb : Below w.heap.size w w1) : Cond fid cs vs p w1 :=
  ⟨h.enters, fun j v hv w' hw' => h.calls j v hv w' (hb.trans (hw'.mono hb.size))⟩
theorem enters_of {f : Nat} {fn : Func} (hf : Tryz.prog.funcs[f]? = some fn) (hn : (fn.name == "runtime.NumGoroutine") = false) (hb : fn.body.isNone = false) (args : Array Value) (w : World) :
    (callFunc f args).run Tryz.prog w = .ok (.enter f args) w := by
  have h1 : fn.name ≠ "runtime.NumGoroutine" := by simpa using hn
  have h2 : fn.body ≠ none := by intro e; simp [e] at hb
  simp [callFunc, hf, h1, h2]

def RetIb (x : Int) (w : World) (e : Ending) (w' : World) : Prop := e = .returned (.int .i64 x) ∧ Below w.heap.size w w'
theorem RetIb.mk {x y : Int} {w w' : World} (h : y = x) (hb : Below w.heap.size w w') : RetIb x w (.returned (.int .i64 y)) w' := ⟨by rw [h], hb⟩

theorem indexI_any (A : Option Addr) (n c : Nat) (xs : List Int) (fid : Nat) (cs : Array Value) (p : Nat → Bool) (w : World) (h : RdS w w.heap.size A n c xs) (hn : n ≤ 2000000)
    (hf : Cond fid cs (xs.map (.int .i64)) p w) :
    Calls Tryz.prog 135 #[.slice A n c, .func (.func fid) #[] cs] w (RetIb (firstB p n) w) := by
  have hent := hf.enters
  have HF := Lib.hid hf; clear hf
  go_enter Tryz.func135, Tryz.ntmps135
  go_wp2_with fail
  go_loopw [8] (fun i wr => ∃ k : Nat, k ≤ n ∧ i = .int .i64 k ∧ Hid (∀ j, j < k → p j = false) ∧ Below w.heap.size w wr) (fun i _ => n - (intOf i).toNat)
  case atStart => exact ⟨0, Nat.zero_le _, rfl, Lib.hid (fun j hj => absurd hj (by omega)), Below.refl _ _⟩
  case round =>
    obtain ⟨k, hk, rfl, H0, HB⟩ := hrel
    by_cases hlt : k < n
    · obtain ⟨ad, x, rfl, _, hx, hc⟩ := (h.below HB).at_ hlt
      have hcall := HF.out.calls k (.int .i64 x) (by rw [List.getElem?_map, hx.out]; rfl) wr HB
      have Hcall := Lib.hid hcall; clear hcall
      by_cases hp : p k = true
      · have Hp := Lib.hid hp; clear hp
        go_wp2_with fail
        refine Hcall.out.mono ?_
        rintro e w1 ⟨rfl, hb1⟩
        rw [Hp.out]
        go_wp2_with fail
        go_ret
        exact RetIb.mk (y := k) (firstB_hit hlt H0.out Hp.out).symm (HB.trans (hb1.mono HB.size))
      · have Hp := Lib.hid hp; clear hp
        go_wp2_with fail
        refine Hcall.out.mono ?_
        rintro e w1 ⟨rfl, hb1⟩
        rw [Bool.eq_false_iff.2 Hp.out]
        go_wp2_with fail
        go_roundw
        case rel =>
          refine ⟨k+1, by omega, by go_num, Lib.hid (fun j hj => ?_), HB.trans (hb1.mono HB.size)⟩
          rcases Nat.lt_succ_iff_lt_or_eq.1 hj with h | rfl
          · exact H0.out j h
          · exact Bool.eq_false_iff.2 Hp.out
        case measure => simp [intOf]; omega
    · go_wp2_with fail
      go_ret
      obtain rfl : k = n := by omega
      exact RetIb.mk (y := -1) (firstB_miss H0.out).symm HB

theorem containsI_any (A : Option Addr) (n c : Nat) (xs : List Int) (fid : Nat) (cs : Array Value) (p : Nat → Bool) (w : World) (h : RdS w w.heap.size A n c xs) (hn : n ≤ 2000000)
    (hf : Cond fid cs (xs.map (.int .i64)) p w) :
    Calls Tryz.prog 117 #[.slice A n c, .func (.func fid) #[] cs] w (RetBb ((List.range n).any p) w) := by
  have H := Lib.hid h; clear h
  have HF := Lib.hid hf; clear hf
  go_enter Tryz.func117, Tryz.ntmps117
  go_wp2_with fail
  refine (indexI_any A n c xs fid cs p w H.out hn HF.out).mono ?_
  rintro e w1 ⟨rfl, hb1⟩
  go_wp2_with fail
  go_ret
  exact RetBb.mk firstB_ge hb1

theorem notI_cond (g : Nat) (vs : List Value) (fid : Nat) (cs : Array Value) (p : Nat → Bool) (w : World) (hc : w.cell? ⟨g, 0, none⟩ = some (.func (.func fid) #[] cs)) (hg : g < w.heap.size)
    (hf : Cond fid cs vs p w) : Cond 118 #[.pointer (some ⟨g, 0, none⟩)] vs (fun j => !p j) w := by
  refine ⟨enters_of Tryz.func118 (by kernel_rfl) rfl, fun j v hv w' hb => ?_⟩
  have hc' : w'.cell? ⟨g, 0, none⟩ = some (.func (.func fid) #[] cs) := (hb.cell (p := ⟨g, 0, none⟩) hg).trans hc
  have hent := hf.enters
  have Hcall := Lib.hid (hf.calls j v hv w' hb)
  clear hf hc hv
  simp only [List.append_toArray, List.cons_append, List.nil_append]
  go_enter Tryz.func118, Tryz.ntmps118
  go_wp2_with fail
  refine Hcall.out.mono ?_
  rintro e w1 ⟨rfl, hb1⟩
  go_wp2_with fail
  go_ret
  exact RetBb.mk rfl hb1

/-- all[int64]: the condition holds at every element. -/
theorem allI_any (A : Option Addr) (n c : Nat) (xs : List Int) (fid : Nat) (cs : Array Value) (p : Nat → Bool) (w : World) (h : RdS w w.heap.size A n c xs) (hn : n ≤ 2000000)
    (hf : Cond fid cs (xs.map (.int .i64)) p w) :
    Calls Tryz.prog 74 #[.slice A n c, .func (.func fid) #[] cs] w (RetBb ((List.range n).all p) w) := by
  have hb0 : Below w.heap.size w (w.alloc (.cells #[.func (.func fid) #[] cs] 74)) := (Below.refl _ _).alloc (Nat.le_refl _) _
  have H := Lib.hid ((h.below hb0).mono hb0.size); clear h
  have HF := Lib.hid (notI_cond w.heap.size (xs.map (.int .i64)) fid cs p _ (by simp) (by simp) (hf.below hb0)); clear hf
  have Hb0 := Lib.hid hb0; clear hb0
  go_enter Tryz.func74, Tryz.ntmps74
  go_wp2_with fail
  refine (containsI_any A n c xs _ _ _ _ H.out hn HF.out).mono ?_
  rintro e w1 ⟨rfl, hb1⟩
  go_wp2_with fail
  go_ret
  exact RetBb.mk (by rw [List.not_any_eq_all_not]; simp) (Hb0.out.trans (hb1.mono Hb0.out.size))

/-- every element is small -/
def allSmall (xs : List Int) : Bool := xs.all smallB
theorem all_range {α : Type} (xs : List α) (q : α → Bool) (p : Nat → Bool) (n : Nat) (hn : xs.length = n) (h : ∀ j (hj : j < xs.length), p j = q xs[j]) : (List.range n).all p = xs.all q := by
  rw [Bool.eq_iff_iff, List.all_eq_true, List.all_eq_true]
  constructor
  · intro h1 x hx
    obtain ⟨j, hj, rfl⟩ := List.getElem_of_mem hx
    rw [← h j hj]; exact h1 j (by simp; omega)
  · intro h1 j hj
    have hj' : j < xs.length := by rw [hn]; simpa using hj
    rw [h j hj']; exact h1 _ (List.getElem_mem _)

/-- a condition on integers, whatever the world, without memory of its own -/
theorem cond_of {fid : Nat} (q : Int → Bool) (henter : ∀ args w, (callFunc fid args).run Tryz.prog w = .ok (.enter fid args) w)
    (h : ∀ x w, Calls Tryz.prog fid #[.int .i64 x] w (RetP (q x) w)) (xs : List Int) (w : World) : Cond fid #[] (xs.map (.int .i64)) (fun j => q (xs[j]?.getD 0)) w := by
  refine ⟨henter, fun j v hv w' _ => ?_⟩
  rw [List.getElem?_map] at hv
  obtain ⟨x, hx, rfl⟩ := Option.map_eq_some_iff.1 hv
  have : xs[j]?.getD 0 = x := by simp [hx]
  rw [this]
  exact (h x w').mono fun _ _ h => h.bb
end Go.Proofs.YtoodhbafleemjaaGreat

/- Contracts on series of degrees: isSeries, l18Is, IsNonnegative on both sides. -/
namespace Go.Proofs.YtoodhbafleemjaaGreat
open Go.RowKit
set_option linter.unusedVariables false

def seriesB (xs : List Int) : Bool := decide (1 ≤ xs.length) && (decide (xs.length ≤ 301) && xs.all smallB)

theorem all_getD (xs : List Int) (q : Int → Bool) (n : Nat) (hn : xs.length = n) : (List.range n).all (fun j => q (xs[j]?.getD 0)) = xs.all q :=
  all_range xs q _ n hn (fun j hj => by simp [hj])

theorem all_take_succ {xs : List Int} {q : Int → Bool} {k : Nat} {x : Int} (h : Hid ((xs.take k).all q = true)) (hx : Hid (xs[k]? = some x)) (hq : q x = true) : (xs.take (k+1)).all q = true := by
  rw [take_succ_of hx, List.all_append, h.out]; simp [hq]
theorem all_false_of {xs : List Int} {q : Int → Bool} {k : Nat} {x : Int} (hx : Hid (xs[k]? = some x)) (hq : q x = false) : xs.all q = false := by
  rw [List.all_eq_false]; exact ⟨x, mem_of hx, by simp [hq]⟩

theorem seriesB_len {xs : List Int} (h : seriesB xs = true) : 1 ≤ xs.length ∧ xs.length ≤ 301 := by
  simp [seriesB] at h; omega
theorem seriesB_small {xs : List Int} (h : seriesB xs = true) : ∀ x ∈ xs, -1000000000000 ≤ x ∧ x ≤ 1000000000000 := by
  simp only [seriesB, Bool.and_eq_true, List.all_eq_true] at h
  intro x hx
  exact inB_iff.1 (h.2.2 x hx)

/-! ### IsNonnegative -/
/-- two results: a bool and a code -/
def RetBC (b : Bool) (k : Int) (w : World) (e : Ending) (w' : World) : Prop := e = .returned (.tuple #[.bool b, .int .i64 k]) ∧ Below w.heap.size w w'
theorem RetBC.mk {b b' : Bool} {k k' : Int} {w w' : World} (h : b' = b) (hk : k' = k) (hb : Below w.heap.size w w') : RetBC b k w (.returned (.tuple #[.bool b', .int .i64 k'])) w' := ⟨by rw [h, hk], hb⟩

def nonB (x : Int) : Bool := decide (0 ≤ x)
def nonnegR (xs : List Int) : Bool := if seriesB xs = true then xs.all nonB else false
def nonnegC (xs : List Int) : Int := if seriesB xs = true then 0 else 1

end Go.Proofs.YtoodhbafleemjaaGreat

/- Series of numbers: running sums with a step (one factor 1/(1 - t^p)), the numbers of exponent lists; SeriesOfAlgebra on both sides. -/
namespace Go.Proofs.YtoodhbafleemjaaGreat
open Go.RowKit
set_option linter.unusedVariables false

/-- one store: xs[n] += xs[n - p] -/
def addP (p : Nat) (xs : List Int) (n : Nat) : List Int := xs.set n (wrap64 (xs.getD n 0 + xs.getD (n - p) 0))
/-- the stores from n up to e - 1 -/
def addFrom (p e : Nat) (xs : List Int) (n : Nat) : List Int := (List.range' n (e - n)).foldl (addP p) xs
theorem addP_length (p : Nat) (xs : List Int) (n : Nat) : (addP p xs n).length = xs.length := by simp [addP]
theorem addFold_length (p : Nat) (ns : List Nat) (xs : List Int) : (ns.foldl (addP p) xs).length = xs.length := by
  induction ns generalizing xs with
  | nil => rfl
  | cons n ns ih => rw [List.foldl_cons, ih, addP_length]
theorem addFrom_length (p e : Nat) (xs : List Int) (n : Nat) : (addFrom p e xs n).length = xs.length := addFold_length _ _ _
theorem addFrom_step {p e n : Nat} {xs : List Int} (h : n < e) : addFrom p e xs n = addFrom p e (addP p xs n) (n + 1) := by
  unfold addFrom
  rw [show e - n = (e - (n + 1)) + 1 from by omega, List.range'_succ, List.foldl_cons]
theorem addFrom_end {p e n : Nat} {xs : List Int} (h : e ≤ n) : addFrom p e xs n = xs := by
  unfold addFrom
  rw [show e - n = 0 from by omega]; rfl
theorem addP_of {p n : Nat} {xs : List Int} {x y : Int} (hx : Hid (xs[n]? = some x)) (hy : Hid (xs[n - p]? = some y)) : addP p xs n = xs.set n (wrap64 (x + y)) := by
  unfold addP
  rw [List.getD_eq_getElem?_getD, List.getD_eq_getElem?_getD, hx.out, hy.out]; rfl

/-- the list that begins with 1 and goes on with 0 -/
def oneL (n : Nat) : List Int := (List.replicate n 0).set 0 1
theorem oneL_length (n : Nat) : (oneL n).length = n := by simp [oneL]

/-- the parts 1, 3, 7, .. one after the other, as long as they are at most d -/
def cpAll : Nat → Nat → Nat → List Int → List Int
  | 0, _, _, xs => xs
  | f + 1, d, p, xs => if p ≤ d then cpAll f d (2 * p + 1) (addFrom p (d + 1) xs p) else xs
def countL (d : Nat) : List Int := cpAll (d + 1) d 1 (oneL (d + 1))
theorem cpAll_length (f d p : Nat) (xs : List Int) : (cpAll f d p xs).length = xs.length := by
  induction f generalizing p xs with
  | zero => rfl
  | succ f ih =>
    unfold cpAll
    split
    · rw [ih, addFrom_length]
    · rfl
theorem countL_length (d : Nat) : (countL d).length = d + 1 := by rw [countL, cpAll_length, oneL_length]

/-- Both cells that a store of addP reads, and what the store makes. -/
theorem OwnS.two {w : World} {B n c : Nat} {A : Option Addr} {xs : List Int} (h : OwnS w B A n c xs) {k p : Nat} (hk : k < n) :
    ∃ g x y, A = some ⟨g, 0, none⟩ ∧ B ≤ g ∧ w.cell? ⟨g, k, none⟩ = some (.int .i64 x) ∧ w.cell? ⟨g, k - p, none⟩ = some (.int .i64 y) ∧ w.frozen? ⟨g, k, none⟩ = false ∧
      Hid (xs[k]? = some x) ∧ Hid (xs[k - p]? = some y) ∧ ∀ u, OwnS (w.setCell ⟨g, k, none⟩ (.int .i64 u)) B (some ⟨g, 0, none⟩) n c (xs.set k u) := by
  obtain ⟨g, x, rfl, hB, _, hx, hc, hf, hset⟩ := h.at_ hk
  obtain ⟨g', y, hg', _, _, hy, hc', _, _⟩ := h.at_ (show k - p < n by omega)
  obtain rfl : g = g' := by simpa using hg'
  exact ⟨g, x, y, rfl, hB, hc, hc', hf, hx, hy, fun u => (hset u).1⟩

def RetO (n : Nat) (xs : List Int) (w : World) (e : Ending) (w' : World) : Prop := ∃ A c, e = .returned (.slice A n c) ∧ OwnS w' w.heap.size A n c xs ∧ Below w.heap.size w w'

theorem made_own {w1 : World} {B g n : Nat} (hown : w1.ownsRow B 2 1 (.slice (some ⟨g, 0, none⟩) n n) n (madeCells #[.int .i64 0] n).toList) : OwnS w1 B (some ⟨g, 0, none⟩) n n (List.replicate n 0) :=
  ⟨by simp, by simpa [toList_madeCells_one] using hown⟩

/-- the rounds of the inner loop, as the walk meets them: the cells n and n - p are read, the sum is stored -/
theorem cpAll_step {f d p : Nat} {xs : List Int} (h : p ≤ d) : cpAll (f + 1) d p xs = cpAll f d (2 * p + 1) (addFrom p (d + 1) xs p) := by rw [cpAll, if_pos h]
theorem cpAll_end {f d p : Nat} {xs : List Int} (h : ¬ p ≤ d) : cpAll f d p xs = xs := by
  cases f with
  | zero => rfl
  | succ f => rw [cpAll, if_neg h]

/-! ### SeriesOfAlgebra -/
def fitL (xs : List Int) : List Int := if xs.all smallB = true then xs else []
def fitC (xs : List Int) : Int := if xs.all smallB = true then 0 else 3

/-- limited: the slice itself goes through, if all its numbers are small. -/
def RetFit (A : Option Addr) (n c : Nat) (xs : List Int) (w : World) (e : Ending) (w' : World) : Prop :=
  ((Hid (xs.all smallB = true) ∧ e = .returned (.tuple #[.slice A n c, .int .i64 0])) ∨ (Hid (xs.all smallB = false) ∧ e = .returned (.tuple #[.slice none 0 0, .int .i64 3]))) ∧ Below w.heap.size w w'
theorem RetFit.yes {A : Option Addr} {n c : Nat} {xs : List Int} {w w' : World} (h : xs.all smallB = true) (hb : Below w.heap.size w w') : RetFit A n c xs w (.returned (.tuple #[.slice A n c, .int .i64 0])) w' := ⟨.inl ⟨Lib.hid h, rfl⟩, hb⟩
theorem RetFit.no {A : Option Addr} {n c : Nat} {xs : List Int} {w w' : World} (h : xs.all smallB = false) (hb : Below w.heap.size w w') : RetFit A n c xs w (.returned (.tuple #[.slice none 0 0, .int .i64 3])) w' := ⟨.inr ⟨Lib.hid h, rfl⟩, hb⟩
theorem one_le_cast (m : Nat) : (1 : Int) ≤ ((m + 1 : Nat) : Int) := by omega

theorem addFrom_bound (p e : Nat) (M : Int) (hp : 1 ≤ p) (hM0 : 0 ≤ M) (hM : M * ((e / p + 1 : Nat) : Int) ≤ 1000000000000) (m n : Nat) (hm : e - n = m) (hn : p ≤ n) (ys : List Int)
    (h1 : ∀ j x, j < n → ys[j]? = some x → 0 ≤ x ∧ x ≤ M * ((j / p + 1 : Nat) : Int)) (h2 : ∀ j x, n ≤ j → ys[j]? = some x → 0 ≤ x ∧ x ≤ M) :
    ∀ j x, (addFrom p e ys n)[j]? = some x → 0 ≤ x ∧ x ≤ M * ((j / p + 1 : Nat) : Int) := by
  induction m generalizing n ys with
  | zero =>
    intro j x hx
    rw [addFrom_end (by omega)] at hx
    by_cases hj : j < n
    · exact h1 j x hj hx
    · obtain ⟨h3, h4⟩ := h2 j x (by omega) hx
      refine ⟨h3, Int.le_trans h4 ?_⟩
      have := Int.mul_le_mul_of_nonneg_left (one_le_cast (j / p)) hM0
      simpa using this
  | succ m ih =>
    rw [addFrom_step (by omega)]
    have key : ∀ x y, ys[n]? = some x → ys[n - p]? = some y → wrap64 (x + y) = x + y ∧ 0 ≤ x + y ∧ x + y ≤ M * ((n / p + 1 : Nat) : Int) := by
      intro x y hx hy
      obtain ⟨a1, a2⟩ := h2 n x (Nat.le_refl _) hx
      obtain ⟨b1, b2⟩ := h1 (n - p) y (by omega) hy
      have hq : n / p = (n - p) / p + 1 := by rw [Nat.div_eq_sub_div (by omega) hn]
      have hmul : M * ((n / p + 1 : Nat) : Int) = M + M * (((n - p) / p + 1 : Nat) : Int) := by
        rw [hq]; push_cast; rw [Int.mul_add M, Int.mul_one, Int.add_comm]
      have hle : M * ((n / p + 1 : Nat) : Int) ≤ M * ((e / p + 1 : Nat) : Int) :=
        Int.mul_le_mul_of_nonneg_left (by have := Nat.div_le_div_right (c := p) (show n ≤ e by omega); omega) hM0
      refine ⟨?_, by omega, by omega⟩
      unfold wrap64; omega
    refine ih (n + 1) (by omega) (by omega) (addP p ys n) ?_ ?_
    · intro j x hj hx
      unfold addP at hx
      rw [List.getElem?_set] at hx
      split at hx
      · subst j
        split at hx
        · rename_i hlt
          simp only [Option.some.injEq] at hx
          subst hx
          have e1 : ys[n]? = some (ys.getD n 0) := by rw [List.getD_eq_getElem?_getD, List.getElem?_eq_getElem hlt]; rfl
          have e2 : ys[n - p]? = some (ys.getD (n - p) 0) := by rw [List.getD_eq_getElem?_getD, List.getElem?_eq_getElem (by omega)]; rfl
          obtain ⟨k1, k2, k3⟩ := key _ _ e1 e2
          rw [k1]; exact ⟨k2, k3⟩
        · cases hx
      · exact h1 j x (by omega) hx
    · intro j x hj hx
      unfold addP at hx
      rw [List.getElem?_set, if_neg (by omega)] at hx
      exact h2 j x (by omega) hx

theorem addFrom_le (p e : Nat) (M N : Int) (xs : List Int) (hp : 1 ≤ p) (hM0 : 0 ≤ M) (hN : M * ((e / p + 1 : Nat) : Int) ≤ N) (hN2 : N ≤ 1000000000000) (hl : xs.length = e) (h : ∀ x ∈ xs, 0 ≤ x ∧ x ≤ M) :
    ∀ x ∈ addFrom p e xs p, 0 ≤ x ∧ x ≤ N := by
  intro x hx
  obtain ⟨j, hj, rfl⟩ := List.getElem_of_mem hx
  have hj' : j < e := by rw [addFrom_length] at hj; omega
  have hall : ∀ j x, xs[j]? = some x → 0 ≤ x ∧ x ≤ M := fun j x hx => h x (List.mem_of_getElem? hx)
  obtain ⟨a, b⟩ := addFrom_bound p e M hp hM0 (by omega) _ p rfl (Nat.le_refl _) xs (fun j x _ hx => by
    obtain ⟨h3, h4⟩ := hall j x hx
    refine ⟨h3, Int.le_trans h4 ?_⟩
    have := Int.mul_le_mul_of_nonneg_left (one_le_cast (j / p)) hM0
    simpa using this) (fun j x _ hx => hall j x hx) j _ (List.getElem?_eq_getElem hj)
  refine ⟨a, Int.le_trans b (Int.le_trans ?_ hN)⟩
  exact Int.mul_le_mul_of_nonneg_left (by have := Nat.div_le_div_right (c := p) (show j ≤ e by omega); omega) hM0

/-- from the part p on, a list whose numbers are at most M stays small -/
def StaysSmall (d p : Nat) (M : Int) : Prop := ∀ (f : Nat) (xs : List Int), xs.length = d + 1 → (∀ x ∈ xs, 0 ≤ x ∧ x ≤ M) → ∀ x ∈ cpAll f d p xs, 0 ≤ x ∧ x ≤ 1000000000000
theorem staysSmall_end {d p : Nat} (h : d < p) : StaysSmall d p 1000000000000 := fun f xs _ hx => by rw [cpAll_end (by omega)]; exact hx
theorem staysSmall_step {d p : Nat} {M N : Int} (hd : d ≤ 300) (hp : 1 ≤ p) (hM0 : 0 ≤ M) (hM : M ≤ 1000000000000) (hN : M * ((301 / p + 1 : Nat) : Int) ≤ N) (hN2 : N ≤ 1000000000000) (h : StaysSmall d (2 * p + 1) N) : StaysSmall d p M := by
  intro f xs hl hx
  cases f with
  | zero => exact fun x h => ⟨(hx x h).1, Int.le_trans (hx x h).2 hM⟩
  | succ f =>
    by_cases hpd : p ≤ d
    · rw [cpAll_step hpd]
      refine h f _ (by rw [addFrom_length]; exact hl) (addFrom_le p (d + 1) M N xs hp hM0 (Int.le_trans ?_ hN) hN2 hl hx)
      refine Int.mul_le_mul_of_nonneg_left ?_ hM0
      have := Nat.div_le_div_right (c := p) (show d + 1 ≤ 301 by omega)
      exact Int.ofNat_le.2 (Nat.succ_le_succ this)
    · rw [cpAll_end hpd]
      exact fun x h => ⟨(hx x h).1, Int.le_trans (hx x h).2 hM⟩
theorem staysSmall_one {d : Nat} (hd : d ≤ 300) : StaysSmall d 1 1 :=
  staysSmall_step (N := 302) hd (by omega) (by omega) (by omega) (by decide) (by omega) <|
  staysSmall_step (N := 30502) hd (by omega) (by omega) (by omega) (by decide) (by omega) <|
  staysSmall_step (N := 1342088) hd (by omega) (by omega) (by omega) (by decide) (by omega) <|
  staysSmall_step (N := 28183848) hd (by omega) (by omega) (by omega) (by decide) (by omega) <|
  staysSmall_step (N := 281838480) hd (by omega) (by omega) (by omega) (by decide) (by omega) <|
  staysSmall_step (N := 1409192400) hd (by omega) (by omega) (by omega) (by decide) (by omega) <|
  staysSmall_step (N := 4227577200) hd (by omega) (by omega) (by omega) (by decide) (by omega) <|
  staysSmall_step (N := 1000000000000) hd (by omega) (by omega) (by omega) (by decide) (by omega) <|
  staysSmall_end (by omega)

theorem countL_small (d : Nat) (hd : d ≤ 300) : (countL d).all smallB = true := by
  have H : ∀ x ∈ countL d, 0 ≤ x ∧ x ≤ 1000000000000 := by
    refine staysSmall_one hd _ _ (oneL_length _) fun x hx => ?_
    unfold oneL at hx
    rcases List.mem_or_eq_of_mem_set hx with h | rfl
    · have := List.eq_of_mem_replicate h; omega
    · omega
  rw [List.all_eq_true]
  exact fun x hx => inB_iff.2 ⟨by have := (H x hx).1; omega, (H x hx).2⟩

def algL (d : Int) : List Int := if inB d 0 300 = true then countL d.toNat else []
def algC (d : Int) : Int := if inB d 0 300 = true then 0 else 2
def algN (d : Int) : Nat := if inB d 0 300 = true then d.toNat + 1 else 0

end Go.Proofs.YtoodhbafleemjaaGreat
