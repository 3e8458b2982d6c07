/- Contracts of the smallest functions: ranges of numbers, conditions on all elements of a list of integers. -/
import Derived.Test.YtejojliljplcdaaGreatDoorLaw
namespace Go.Proofs.YtejojliljplcdaaGreatDoor
open Go.RowKit
set_option linter.unusedVariables false

/-- n is within bounds. -/
def inB (n lo hi : Int) : Bool := decide (lo ≤ n ∧ n ≤ hi)
theorem inB_iff {n lo hi : Int} : inB n lo hi = true ↔ lo ≤ n ∧ n ≤ hi := by simp [inB]
theorem inB_not {n lo hi : Int} : inB n lo hi = false ↔ ¬ (lo ≤ n ∧ n ≤ hi) := by simp [inB]

def RetP (b : Bool) (w : World) (e : Ending) (w' : World) : Prop := e = .returned (.bool b) ∧ w' = w
theorem RetP.mk {b b' : Bool} {w : World} (h : b' = b) : RetP b w (.returned (.bool b')) w := ⟨by rw [h], rfl⟩

/-- A call that answers a bool and writes nothing that was there. -/
def RetBb (b : Bool) (w : World) (e : Ending) (w' : World) : Prop := e = .returned (.bool b) ∧ Below w.heap.size w w'
theorem RetBb.mk {b b' : Bool} {w w' : World} (h : b' = b) (hb : Below w.heap.size w w') : RetBb b w (.returned (.bool b')) w' := ⟨by rw [h], hb⟩
theorem RetP.bb {b : Bool} {w w' : World} {e : Ending} (h : RetP b w e w') : RetBb b w e w' := ⟨h.1, by rw [h.2]; exact Below.refl _ _⟩

theorem in_any (n lo hi : Int) (w : World) : Calls Tryz.prog 71 #[.int .i64 n, .int .i64 lo, .int .i64 hi] w (RetP (inB n lo hi) w) := by
  by_cases h1 : lo ≤ n
  · by_cases h2 : n ≤ hi
    · go_enter Tryz.func71, Tryz.ntmps71
      go_wp2
      go_ret
      exact RetP.mk (b' := true) (by simp [inB, h1, h2])
    · go_enter Tryz.func71, Tryz.ntmps71
      go_wp2
      go_ret
      exact RetP.mk (b' := false) (by simp [inB, h1, h2])
  · go_enter Tryz.func71, Tryz.ntmps71
    go_wp2
    go_ret
    exact RetP.mk (b' := false) (by simp only [inB]; symm; rw [decide_eq_false_iff_not]; omega)

theorem l01In_any (n lo hi : Int) (w : World) : Calls Tryz.prog 103 #[.int .i64 n, .int .i64 lo, .int .i64 hi] w (RetP (inB n lo hi) w) := by
  by_cases h1 : lo ≤ n
  · by_cases h2 : n ≤ hi
    · go_enter Tryz.func103, Tryz.ntmps103
      go_wp2
      go_ret
      exact RetP.mk (b' := true) (by simp [inB, h1, h2])
    · go_enter Tryz.func103, Tryz.ntmps103
      go_wp2
      go_ret
      exact RetP.mk (b' := false) (by simp [inB, h1, h2])
  · go_enter Tryz.func103, Tryz.ntmps103
    go_wp2
    go_ret
    exact RetP.mk (b' := false) (by simp only [inB]; symm; rw [decide_eq_false_iff_not]; omega)

def smallB (n : Int) : Bool := inB n (-1000000000000) 1000000000000

/-! ### all[int64] -/
/-- the first index below n, from k on, at which p holds, or -1 -/
def firstB (p : Nat → Bool) (n : Nat) : Int := match (List.range n).find? p with | some i => i | none => -1
theorem firstB_hit {p : Nat → Bool} {n k : Nat} (hk : k < n) (h0 : ∀ j, j < k → p j = false) (h : p k = true) : firstB p n = k := by
  have : (List.range n).find? p = some k := by
    rw [List.find?_range_eq_some]
    exact ⟨h, by simpa using hk, fun j hj => by simp [h0 j hj]⟩
  simp [firstB, this]
theorem firstB_miss {p : Nat → Bool} {n : Nat} (h0 : ∀ j, j < n → p j = false) : firstB p n = -1 := by
  have : (List.range n).find? p = none := by
    rw [List.find?_eq_none]
    intro j hj
    simp [h0 j (by simpa using hj)]
  simp [firstB, this]
theorem firstB_ge {p : Nat → Bool} {n : Nat} : (decide ((0 : Int) ≤ firstB p n)) = (List.range n).any p := by
  unfold firstB
  cases h : (List.range n).find? p with
  | none =>
    have : (List.range n).any p = false := by
      rw [List.any_eq_false]; exact fun x hx => by simpa using List.find?_eq_none.1 h x hx
    simp [this]
  | some i =>
    have : (List.range n).any p = true := by
      rw [List.any_eq_true]; exact ⟨i, List.mem_of_find?_eq_some h, List.find?_some h⟩
    simp [this]

/-- What is known of a condition that is handed in as a function value: at each element it answers p, and writes nothing that was there. -/
structure Cond (fid : Nat) (cs : Array Value) (vs : List Value) (p : Nat → Bool) (w : World) : Prop where
  enters : ∀ args w, (callFunc fid args).run Tryz.prog w = .ok (.enter fid args) w
  calls : ∀ j v, vs[j]? = some v → ∀ w', Below w.heap.size w w' → Calls Tryz.prog fid (#[v] ++ cs) w' (RetBb (p j) w')
theorem Cond.below {fid : Nat} {cs : Array Value} {vs : List Value} {p : Nat → Bool} {w w1 : World} (h : Cond fid cs vs p w) (hb : Below w.heap.size w w1) : Cond fid cs vs p w1 :=
  ⟨h.enters, fun j v hv w' hw' => h.calls j v hv w' (hb.trans (hw'.mono hb.size))⟩
theorem enters_of {f : Nat} {fn : Func} (hf : Tryz.prog.funcs[f]? = some fn) (hn : (fn.name == "runtime.NumGoroutine") = false) (hb : fn.body.isNone = false) (args : Array Value) (w : World) :
    (callFunc f args).run Tryz.prog w = .ok (.enter f args) w := by
  have h1 : fn.name ≠ "runtime.NumGoroutine" := by simpa using hn
  have h2 : fn.body ≠ none := by intro e; simp [e] at hb
  simp [callFunc, hf, h1, h2]

def RetIb (x : Int) (w : World) (e : Ending) (w' : World) : Prop := e = .returned (.int .i64 x) ∧ Below w.heap.size w w'
theorem RetIb.mk {x y : Int} {w w' : World} (h : y = x) (hb : Below w.heap.size w w') : RetIb x w (.returned (.int .i64 y)) w' := ⟨by rw [h], hb⟩

theorem indexI_any (A : Option Addr) (n c : Nat) (xs : List Int) (fid : Nat) (cs : Array Value) (p : Nat → Bool) (w : World) (h : RdS w w.heap.size A n c xs) (hn : n ≤ 2000000)
    (hf : Cond fid cs (xs.map (.int .i64)) p w) :
    Calls Tryz.prog 120 #[.slice A n c, .func (.func fid) #[] cs] w (RetIb (firstB p n) w) := by
  have hent := hf.enters
  have HF := Lib.hid hf; clear hf
  go_enter Tryz.func120, Tryz.ntmps120
  go_wp2_with fail
  go_loopw [8] (fun i wr => ∃ k : Nat, k ≤ n ∧ i = .int .i64 k ∧ Hid (∀ j, j < k → p j = false) ∧ Below w.heap.size w wr) (fun i _ => n - (intOf i).toNat)
  case atStart => exact ⟨0, Nat.zero_le _, rfl, Lib.hid (fun j hj => absurd hj (by omega)), Below.refl _ _⟩
  case round =>
    obtain ⟨k, hk, rfl, H0, HB⟩ := hrel
    by_cases hlt : k < n
    · obtain ⟨ad, x, rfl, _, hx, hc⟩ := (h.below HB).at_ hlt
      have hcall := HF.out.calls k (.int .i64 x) (by rw [List.getElem?_map, hx.out]; rfl) wr HB
      have Hcall := Lib.hid hcall; clear hcall
      by_cases hp : p k = true
      · have Hp := Lib.hid hp; clear hp
        go_wp2_with fail
        refine Hcall.out.mono ?_
        rintro e w1 ⟨rfl, hb1⟩
        rw [Hp.out]
        go_wp2_with fail
        go_ret
        exact RetIb.mk (y := k) (firstB_hit hlt H0.out Hp.out).symm (HB.trans (hb1.mono HB.size))
      · have Hp := Lib.hid hp; clear hp
        go_wp2_with fail
        refine Hcall.out.mono ?_
        rintro e w1 ⟨rfl, hb1⟩
        rw [Bool.eq_false_iff.2 Hp.out]
        go_wp2_with fail
        go_roundw
        case rel =>
          refine ⟨k+1, by omega, by go_num, Lib.hid (fun j hj => ?_), HB.trans (hb1.mono HB.size)⟩
          rcases Nat.lt_succ_iff_lt_or_eq.1 hj with h | rfl
          · exact H0.out j h
          · exact Bool.eq_false_iff.2 Hp.out
        case measure => simp [intOf]; omega
    · go_wp2_with fail
      go_ret
      obtain rfl : k = n := by omega
      exact RetIb.mk (y := -1) (firstB_miss H0.out).symm HB

theorem containsI_any (A : Option Addr) (n c : Nat) (xs : List Int) (fid : Nat) (cs : Array Value) (p : Nat → Bool) (w : World) (h : RdS w w.heap.size A n c xs) (hn : n ≤ 2000000)
    (hf : Cond fid cs (xs.map (.int .i64)) p w) :
    Calls Tryz.prog 84 #[.slice A n c, .func (.func fid) #[] cs] w (RetBb ((List.range n).any p) w) := by
  have H := Lib.hid h; clear h
  have HF := Lib.hid hf; clear hf
  go_enter Tryz.func84, Tryz.ntmps84
  go_wp2_with fail
  refine (indexI_any A n c xs fid cs p w H.out hn HF.out).mono ?_
  rintro e w1 ⟨rfl, hb1⟩
  go_wp2_with fail
  go_ret
  exact RetBb.mk firstB_ge hb1

theorem notI_cond (g : Nat) (vs : List Value) (fid : Nat) (cs : Array Value) (p : Nat → Bool) (w : World) (hc : w.cell? ⟨g, 0, none⟩ = some (.func (.func fid) #[] cs)) (hg : g < w.heap.size)
    (hf : Cond fid cs vs p w) : Cond 98 #[.pointer (some ⟨g, 0, none⟩)] vs (fun j => !p j) w := by
  refine ⟨enters_of Tryz.func98 (by kernel_rfl) rfl, fun j v hv w' hb => ?_⟩
  have hc' : w'.cell? ⟨g, 0, none⟩ = some (.func (.func fid) #[] cs) := (hb.cell (p := ⟨g, 0, none⟩) hg).trans hc
  have hent := hf.enters
  have Hcall := Lib.hid (hf.calls j v hv w' hb)
  clear hf hc hv
  simp only [List.append_toArray, List.cons_append, List.nil_append]
  go_enter Tryz.func98, Tryz.ntmps98
  go_wp2_with fail
  refine Hcall.out.mono ?_
  rintro e w1 ⟨rfl, hb1⟩
  go_wp2_with fail
  go_ret
  exact RetBb.mk rfl hb1

/-- all[int64]: the condition holds at every element. -/
theorem allI_any (A : Option Addr) (n c : Nat) (xs : List Int) (fid : Nat) (cs : Array Value) (p : Nat → Bool) (w : World) (h : RdS w w.heap.size A n c xs) (hn : n ≤ 2000000)
    (hf : Cond fid cs (xs.map (.int .i64)) p w) :
    Calls Tryz.prog 56 #[.slice A n c, .func (.func fid) #[] cs] w (RetBb ((List.range n).all p) w) := by
  have hb0 : Below w.heap.size w (w.alloc (.cells #[.func (.func fid) #[] cs] 72)) := (Below.refl _ _).alloc (Nat.le_refl _) _
  have H := Lib.hid ((h.below hb0).mono hb0.size); clear h
  have HF := Lib.hid (notI_cond w.heap.size (xs.map (.int .i64)) fid cs p _ (by simp) (by simp) (hf.below hb0)); clear hf
  have Hb0 := Lib.hid hb0; clear hb0
  go_enter Tryz.func56, Tryz.ntmps56
  go_wp2_with fail
  refine (containsI_any A n c xs _ _ _ _ H.out hn HF.out).mono ?_
  rintro e w1 ⟨rfl, hb1⟩
  go_wp2_with fail
  go_ret
  exact RetBb.mk (by rw [List.not_any_eq_all_not]; simp) (Hb0.out.trans (hb1.mono Hb0.out.size))

/-- every element is small -/
def allSmall (xs : List Int) : Bool := xs.all smallB
theorem all_range {α : Type} (xs : List α) (q : α → Bool) (p : Nat → Bool) (n : Nat) (hn : xs.length = n) (h : ∀ j (hj : j < xs.length), p j = q xs[j]) : (List.range n).all p = xs.all q := by
  rw [Bool.eq_iff_iff, List.all_eq_true, List.all_eq_true]
  constructor
  · intro h1 x hx
    obtain ⟨j, hj, rfl⟩ := List.getElem_of_mem hx
    rw [← h j hj]; exact h1 j (by simp; omega)
  · intro h1 j hj
    have hj' : j < xs.length := by rw [hn]; simpa using hj
    rw [h j hj']; exact h1 _ (List.getElem_mem _)

/-- a condition on integers, whatever the world, without memory of its own -/
theorem cond_of {fid : Nat} (q : Int → Bool) (henter : ∀ args w, (callFunc fid args).run Tryz.prog w = .ok (.enter fid args) w)
    (h : ∀ x w, Calls Tryz.prog fid #[.int .i64 x] w (RetP (q x) w)) (xs : List Int) (w : World) : Cond fid #[] (xs.map (.int .i64)) (fun j => q (xs[j]?.getD 0)) w := by
  refine ⟨henter, fun j v hv w' _ => ?_⟩
  rw [List.getElem?_map] at hv
  obtain ⟨x, hx, rfl⟩ := Option.map_eq_some_iff.1 hv
  have : xs[j]?.getD 0 = x := by simp [hx]
  rw [this]
  exact (h x w').mono fun _ _ h => h.bb
end Go.Proofs.YtejojliljplcdaaGreatDoor
