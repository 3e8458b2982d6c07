/- The law FnExactIsLambda, over what both sides answer. -/
import Derived.Test.YtdgcgcodjddddaaDoorIsLam
import Derived.Test.YtdgcgcodjddddaaDoorLamT
import Derived.Deep.RegionHeld3
import Derived.Test.YtdgcgcodjddddaaDoorSumO
import Derived.Test.YtdgcgcodjddddaaDoorFr
import Derived.Test.YtdgcgcodjddddaaDoorSumL
namespace Go.Proofs.YtdgcgcodjddddaaDoor
open Go.RowKit
set_option linter.unusedVariables false

theorem isLB_asc {xss : List (List Int)} (h : isLB xss = true) : Asc xss := by
  simp only [isLB, Bool.and_eq_true] at h
  exact asc_risB.1 h.1.1.1.2
end Go.Proofs.YtdgcgcodjddddaaDoor

/- AddLambda on both sides. -/
namespace Go.Proofs.YtdgcgcodjddddaaDoor
open Go.RowKit
set_option linter.unusedVariables false

theorem isZeroL_any (A : Option Addr) (n c : Nat) (w : World) (hn : n ≤ 2000000) : Calls Tryd.prog 36 #[.agg #[.slice A n c]] w (RetBb (decide (n = 0)) w) := by
  have hb0 : Below w.heap.size w (w.alloc (.cells #[.slice A n c] 28)) := (Below.refl _ _).alloc (Nat.le_refl _) _
  have Hb0 := Lib.hid hb0; clear hb0
  rcases Nat.eq_zero_or_pos n with rfl | h
  · skip
    go_enter Tryd.func36, Tryd.ntmps36
    go_wp2_with fail
    go_ret
    exact RetBb.mk (b' := true) rfl Hb0.out
  · have h1 : ((n : Int) == 0) = false := by simp; omega
    go_enter Tryd.func36, Tryd.ntmps36
    go_wp2_with fail
    go_ret
    exact RetBb.mk (by simp; omega) Hb0.out

def RetSz (x : List Int) (w : World) (e : Ending) (w' : World) : Prop := e = .returned (.tuple #[.int .i64 x.length, .int .i64 (psT 0 x)]) ∧ Below w.heap.size w w'
theorem RetSz.mk {x : List Int} {w w' : World} {a b : Int} (ha : a = x.length) (hb : b = psT 0 x) (h : Below w.heap.size w w') : RetSz x w (.returned (.tuple #[.int .i64 a, .int .i64 b])) w' := by subst ha; subst hb; exact ⟨rfl, h⟩
theorem sizeL_any (A : Option Addr) (n c B : Nat) (xss : List (List Int)) (w : World) (h : RdL w B A n c xss) (hB : B ≤ w.heap.size) (hpos : 0 < n) (hx : ∀ x ∈ xss, x.length ≤ 2000000) :
    Calls Tryd.prog 37 #[.agg #[.slice A n c]] w (RetSz (xss.headD []) w) := by
  have hb0 : Below w.heap.size w (w.alloc (.cells #[.slice A n c] 28)) := (Below.refl _ _).alloc (Nat.le_refl _) _
  obtain ⟨ad, A3, n3, c3, x0, rfl, _, hx0, hc0, hr0⟩ := (h.below (hb0.mono hB)).at_ hpos
  have hh : xss.headD [] = x0 := by
    have := hx0.out
    cases xss with
    | nil => simp at this
    | cons y ys => simpa using this
  rw [hh]
  have hn3 : n3 ≤ 2000000 := by rw [← hr0.len]; exact hx x0 (List.mem_of_getElem? hx0.out)
  have Hl := Lib.hid hr0.len
  have hc00 : (w.alloc (.cells #[.slice (some ad) n c] 28)).cell? ad = some (.slice A3 n3 c3) := by simpa [Addr.add] using hc0
  have Hs := fun W : Nat => Lib.hid (sum_any A3 n3 c3 _ x0 _ (hr0.drewN W) (by omega))
  obtain ⟨v, hv⟩ : ∃ v, v = psT 0 x0 := ⟨_, rfl⟩
  have HV := Lib.hid hv
  rw [← hv] at Hs
  have Hb0 := Lib.hid hb0
  have hp0 : (0 : Int) < (n : Int) := by omega
  clear hb0 hv hh hx hr0 h hc0 hx0
  go_enter Tryd.func37, Tryd.ntmps37
  go_wp2_with fail
  go_quiet ((go_at_call 55; exact Calls.quiet_of_same ((Hs _).out)))
  go_wp2_with fail
  go_ret2
  exact RetSz.mk (a := n3) (by rw [Hl.out]) HV.out (below_drewN Hb0.out _)

def sizeEq (a b : List (List Int)) : Bool := decide ((a.headD []).length = (b.headD []).length) && decide (psT 0 (a.headD []) = psT 0 (b.headD []))
def addO (a b : List (List Int)) : Int × List (List Int) :=
  if isLB a && isLB b then
    if !a.isEmpty && !b.isEmpty && !sizeEq a b then (2, []) else if (oddL (a ++ b)).length ≤ 2000 then (0, oddL (a ++ b)) else (3, [])
  else (1, [])
theorem addO_bad1 {a b : List (List Int)} (h : isLB a = false) : addO a b = (1, []) := by simp [addO, h]
theorem addO_bad2 {a b : List (List Int)} (h : isLB b = false) : addO a b = (1, []) := by simp [addO, h]
theorem addO_range {a b : List (List Int)} (h1 : isLB a = true) (h2 : isLB b = true) (h3 : a.isEmpty = false) (h4 : b.isEmpty = false) (h5 : sizeEq a b = false) : addO a b = (2, []) := by simp [addO, h1, h2, h3, h4, h5]
def fits (a b : List (List Int)) : Prop := (!a.isEmpty && !b.isEmpty && !sizeEq a b) = false
theorem addO_ok {a b : List (List Int)} (h1 : isLB a = true) (h2 : isLB b = true) (h3 : fits a b) (h4 : (oddL (a ++ b)).length ≤ 2000) : addO a b = (0, oddL (a ++ b)) := by
  unfold fits at h3
  unfold addO
  rw [h1, h2, h3, Bool.and_self, if_pos rfl, if_neg (by simp), if_pos h4]
theorem addO_lim {a b : List (List Int)} (h1 : isLB a = true) (h2 : isLB b = true) (h3 : fits a b) (h4 : ¬ (oddL (a ++ b)).length ≤ 2000) : addO a b = (3, []) := by
  unfold fits at h3
  unfold addO
  rw [h1, h2, h3, Bool.and_self, if_pos rfl, if_neg (by simp), if_neg h4]
theorem emp_of {xss : List (List Int)} {n : Nat} (h : xss.length = n) : xss.isEmpty = decide (n = 0) := by
  subst h
  cases xss <;> simp

end Go.Proofs.YtdgcgcodjddddaaDoor
