/- Plain: what a sum of squares makes of a polynomial. -/
import Derived.Test.YtejlkobieohgfaaIsSq
import Derived.Test.YtejlkobieohgfaaMon
import Derived.Test.YtejlkobieohgfaaFit
namespace Go.Proofs.Ytejlkobieohgfaa
open Go.RowKit
set_option linter.unusedVariables false

def actW (x : List Int) (f : List (List Int)) : List (List Int) := x.foldr (fun i t => oddL (sqP t i)) f
def actP (a f : List (List Int)) : List (List Int) := a.flatMap fun x => actW x f
theorem actW_zero : ∀ x : List Int, actW x [] = []
  | [] => rfl
  | i :: x => by
    have h := actW_zero x
    unfold actW at h ⊢
    rw [List.foldr_cons, h]
    rfl
theorem actP_zero (a : List (List Int)) : actP a [] = [] := by
  induction a with
  | nil => rfl
  | cons x a ih => unfold actP at ih ⊢; rw [List.flatMap_cons, ih, actW_zero]; rfl
theorem actW_drop {x : List Int} {f : List (List Int)} {j : Nat} {i : Int} (h : Hid (x[j]? = some i)) : actW (x.drop j) f = oddL (sqP (actW (x.drop (j + 1)) f) i) := by
  obtain ⟨hp, e⟩ := List.getElem?_eq_some_iff.1 h.out
  rw [List.drop_eq_getElem_cons hp, e]
  rfl
theorem actW_deg {k : Nat} {d : Int} {f : List (List Int)} (hf : ∀ z ∈ f, Deg k d z) : ∀ x : List Int, ∀ z ∈ actW x f, Deg k (d + x.sum) z
  | [], z, hz => by simpa using hf z hz
  | i :: x, z, hz => by
    have h := sqP_deg (i := i) (actW_deg hf x) z (oddL_mem hz)
    rw [List.sum_cons, show d + (i + x.sum) = d + x.sum + i by omega]
    exact h
theorem actW_asc {f : List (List Int)} (hf : Asc f) : ∀ x : List Int, Asc (actW x f)
  | [] => hf
  | i :: x => oddL_asc _
theorem actP_take_succ {a f : List (List Int)} {m : Nat} {x : List Int} (h : Hid (a[m]? = some x)) : actP (a.take (m + 1)) f = actP (a.take m) f ++ actW x f := by
  unfold actP
  rw [List.take_add_one, h.out, List.flatMap_append]
  simp
/-- words that act on terms of degree d: letters not below 0, and the degree fits -/
def OkW (d : Int) (x : List Int) : Prop := x.length ≤ 20 ∧ (∀ z ∈ x, 0 ≤ z) ∧ d + x.sum ≤ 63
theorem drop_sum {x : List Int} (h : ∀ z ∈ x, 0 ≤ z) (j : Nat) : 0 ≤ (x.drop j).sum ∧ (x.drop j).sum ≤ x.sum := by
  have h1 := sum_nonneg' (x := x.drop j) fun z hz => h z (List.mem_of_mem_drop hz)
  have h2 := sum_nonneg' (x := x.take j) fun z hz => h z (List.mem_of_mem_take hz)
  have h3 : x.sum = (x.take j).sum + (x.drop j).sum := by rw [← List.sum_append, List.take_append_drop]
  omega
theorem OkW.drop {d : Int} {x : List Int} (h : OkW d x) (j : Nat) : OkW d (x.drop j) := by
  have := drop_sum h.2.1 j
  refine ⟨by rw [List.length_drop]; have := h.1; omega, fun z hz => h.2.1 z (List.mem_of_mem_drop hz), by have := h.2.2; omega⟩
theorem drop_step {d : Int} {x : List Int} {j : Nat} {i : Int} (h : OkW d x) (hi : Hid (x[j]? = some i)) : 0 ≤ i ∧ d + (x.drop (j + 1)).sum + i ≤ 63 := by
  obtain ⟨hp, e⟩ := List.getElem?_eq_some_iff.1 hi.out
  have h1 := (h.drop j).2.2
  rw [List.drop_eq_getElem_cons hp, e, List.sum_cons] at h1
  exact ⟨h.2.1 i (mem_of hi), by omega⟩
theorem actW_mono {k : Nat} {d : Int} {f : List (List Int)} {x : List Int} (hf : ∀ z ∈ f, Deg k d z) (h : OkW d x) : ∀ z ∈ actW x f, Mono k z := fun z hz => (actW_deg hf x z hz).mono h.2.2
theorem actP_mono {k : Nat} {d : Int} {a f : List (List Int)} (hf : ∀ z ∈ f, Deg k d z) (ha : ∀ x ∈ a, OkW d x) : ∀ z ∈ actP a f, Mono k z := fun z hz => by
  obtain ⟨x, hx, hz⟩ := List.mem_flatMap.1 hz
  exact actW_mono hf (ha x hx) z hz
theorem asc_small {k : Nat} {xss : List (List Int)} (ha : Asc xss) (h : ∀ x ∈ xss, Mono k x) (hk : k ≤ 4) : xss.length ≤ 16777216 ∧ totalL xss ≤ 67108864 := by
  have h1 := oddL_small h hk
  rw [oddL_of_asc ha] at h1
  have h2 := totalL_le xss 4 fun z hz => by have := (h z hz).2; omega
  omega

/-- what IsSquares tells -/
structure SqF (a : List (List Int)) : Prop where
  len : a.length ≤ 2000
  each : ∀ x ∈ a, x.length ≤ 20 ∧ (∀ z ∈ x, 0 ≤ z) ∧ x.sum ≤ 40 ∧ x.sum = degL a
theorem sqF_of {a : List (List Int)} (h : isSqB a = true) : SqF a := by
  simp only [isSqB, Bool.and_eq_true, decide_eq_true_eq, List.all_eq_true] at h
  obtain ⟨⟨⟨h1, h2⟩, h3⟩, h4⟩ := h
  refine ⟨h1, fun x hx => ?_⟩
  have h5 := h3 x hx
  simp only [wrdB, letB, Bool.and_eq_true, decide_eq_true_eq, List.all_eq_true] at h5
  obtain ⟨⟨k1, k2⟩, k3⟩ := h5
  have k4 : ∀ z ∈ x, 0 ≤ z ∧ z ≤ 40 := fun z hz => by have := inB_iff.1 (k2 z hz); omega
  have k5 := psT_bd x 0 (by omega) (by omega) k4
  simp only [sameB, List.all_eq_true, decide_eq_true_eq] at h4
  have k6 := h4 x hx
  exact ⟨k1, fun z hz => (k4 z hz).1, by omega, by unfold degL; omega⟩

/-- what ActSquares answers -/
def actO (v : Int) (a f : List (List Int)) : Int × List (List Int) × Int :=
  if isSqB a = true ∧ polB v f = true then (if 0 < a.length ∧ 0 < f.length ∧ 40 < degL a + degL f then (0, [], 3) else toldV v (oddL (actP a f))) else (0, [], 1)
theorem actO_bad1 {v : Int} {a f : List (List Int)} (h : isSqB a = false) : actO v a f = (0, [], 1) := by unfold actO; rw [if_neg (by rw [h]; simp)]
theorem actO_bad2 {v : Int} {a f : List (List Int)} (h : polB v f = false) : actO v a f = (0, [], 1) := by unfold actO; rw [if_neg (by rw [h]; simp)]
theorem actO_lim {v : Int} {a f : List (List Int)} (h1 : isSqB a = true) (h2 : polB v f = true) (x : 0 < a.length) (y : 0 < f.length) (z : 40 < degL a + degL f) : actO v a f = (0, [], 3) := by unfold actO; rw [if_pos ⟨h1, h2⟩, if_pos ⟨x, y, z⟩]
theorem actO_ok {v : Int} {a f : List (List Int)} (h1 : isSqB a = true) (h2 : polB v f = true) (h : a.length = 0 ∨ f.length = 0 ∨ degL a + degL f ≤ 40) : actO v a f = toldV v (oddL (actP a f)) := by
  unfold actO
  rw [if_pos ⟨h1, h2⟩, if_neg]
  rintro ⟨p, q, r⟩
  rcases h with h | h | h <;> omega
theorem actO_void {v : Int} {a f : List (List Int)} (h1 : isSqB a = true) (h2 : polB v f = true) (h : a.length = 0 ∨ f.length = 0) : actO v a f = (v, [], 0) := by
  rw [actO_ok h1 h2 (h.elim .inl fun h => .inr (.inl h))]
  have : actP a f = [] := by
    rcases h with h | h
    · rw [List.eq_nil_of_length_eq_zero h]; rfl
    · rw [List.eq_nil_of_length_eq_zero h]; exact actP_zero a
  rw [this]
  exact toldV_yes (by simp [oddL])
/-- the degree of a polynomial's terms, 0 if there are none -/
def degZ (f : List (List Int)) : Int := if f.length = 0 then 0 else degL f
theorem actO_okW {v : Int} {k : Nat} {a f : List (List Int)} (h1 : isSqB a = true) (h2 : polB v f = true) (hk : v = k) (h : a.length = 0 ∨ f.length = 0 ∨ degL a + degL f ≤ 40) : (∀ z ∈ f, Deg k (degZ f) z) ∧ ∀ x ∈ a, OkW (degZ f) x := by
  have hp := polF_of h2
  have hs := sqF_of h1
  refine ⟨fun z hz => ?_, fun x hx => ?_⟩
  · unfold degZ
    rw [if_neg (by intro e; rw [List.eq_nil_of_length_eq_zero e] at hz; cases hz)]
    exact hp.degs hk z hz
  · obtain ⟨a1, a2, a3, a4⟩ := hs.each x hx
    refine ⟨a1, a2, ?_⟩
    unfold degZ
    split
    · omega
    · rename_i hz
      rcases h with h | h | h
      · rw [List.eq_nil_of_length_eq_zero h] at hx; cases hx
      · exact absurd h hz
      · omega

/-- a box of one cell, a box of a Poly, and the result's cells -/
theorem start122 (w : World) (U V1 V2 R1 R2 : Value) (T1 T2 T3 : TypeId) : ∃ w0 b, w0 = ((w.alloc (.cells #[U] T1)).alloc (.cells #[V1, V2] T2)).alloc (.cells #[R1, R2] T3) ∧ b = w.heap.size ∧ Below w.heap.size w w0 ∧ w0.heap.size = b + 1 + 1 + 1 ∧
    Cells [(b + 1 + 1, 0, R1), (b + 1 + 1, 1, R2), (b + 1, 0, V1), (b + 1, 1, V2), (b, 0, U)] w0 := by
  refine ⟨_, _, rfl, rfl, (((Below.refl _ _).alloc (Nat.le_refl _) _).alloc (by simp) _).alloc (by simp; omega) _, by simp, ?_⟩
  exact ((Cells.nil.alloc1 U T1 rfl).alloc2 V1 V2 T2 (by simp)).alloc2 R1 R2 T3 (by simp)
end Go.Proofs.Ytejlkobieohgfaa
