/- LambdaForm on both sides. -/
import Derived.Test.YtdgcgcodjddddaaDoorFr
import Derived.Test.YtdgcgcodjddddaaDoorLwIsLam
import Derived.Test.YtdgcgcodjddddaaDoorLamW
namespace Go.Proofs.YtdgcgcodjddddaaDoor
open Go.RowKit
set_option linter.unusedVariables false

theorem psT_sumZ : ∀ (x : List Int) (t : Int), (∀ a ∈ x, 0 ≤ a ∧ a ≤ 11) → 0 ≤ t → t + 11 * (x.length : Int) ≤ 9223372036854775807 → psT t x = t + sumZ x
  | [], t, _, _, _ => by simp [psT, sumZ]
  | a :: r, t, h, ht, hb => by
    have ha := h a (List.mem_cons_self ..)
    simp only [List.length_cons] at hb
    have h1 : wrap64 (t + a) = t + a := by unfold wrap64; omega
    have h2 := psT_sumZ r (t + a) (fun b hb => h b (List.mem_cons_of_mem _ hb)) (by omega) (by omega)
    show psT (wrap64 (t + a)) r = t + (a + sumZ r)
    rw [h1, h2]
    omega
theorem wordB_okW {x : List Int} (h : wordB x = true) : okW x := by
  simp only [wordB, Bool.and_eq_true, decide_eq_true_eq, facB, List.all_eq_true, inB] at h
  obtain ⟨⟨h1, h2⟩, h3⟩ := h
  have h4 := psT_sumZ x 0 h2 (by omega) (by omega)
  refine ⟨h1, fun a ha => (h2 a ha).1, by omega⟩
theorem isLB_okW {xss : List (List Int)} (h : isLB xss = true) : ∀ x ∈ xss, okW x := by
  simp only [isLB, Bool.and_eq_true, List.all_eq_true] at h
  exact fun x hx => wordB_okW (h.1.1.2 x hx)
theorem isLB_len {xss : List (List Int)} (h : isLB xss = true) : xss.length ≤ 2000 := by
  simp only [isLB, Bool.and_eq_true, decide_eq_true_eq] at h
  exact h.1.1.1.1
theorem nfS_okW {xss : List (List Int)} (h : ∀ x ∈ xss, okW x) : ∀ x ∈ nfS xss, okW x := by
  intro u hu
  obtain ⟨x, hx, hu⟩ := List.mem_flatMap.1 hu
  have ho := h x hx
  obtain ⟨h1, h2, h3, _⟩ := nf_word hu ho.2.1
  refine ⟨by rw [h1]; exact ho.1, h3, by rw [h2]; exact ho.2.2⟩
theorem formL_okW {xss : List (List Int)} (h : ∀ x ∈ xss, okW x) : ∀ x ∈ formL xss, okW x := fun x hx => nfS_okW h x (oddL_mem hx)
theorem formL_asc (xss : List (List Int)) : Asc (formL xss) := oddL_asc _
theorem formL_bounds {xss : List (List Int)} (h : ∀ x ∈ xss, okW x) : (formL xss).length ≤ 75582 ∧ totalL (formL xss) ≤ 529074 := by
  have h1 := asc_len (formL_asc xss) (formL_okW h)
  have h2 := tot_le (formL xss) 7 fun x hx => (formL_okW h x hx).1
  exact ⟨h1, by omega⟩

def formO (a : List (List Int)) : Int × List (List Int) := if isLB a then (0, formL a) else (1, [])
theorem formO_bad {a : List (List Int)} (h : isLB a = false) : formO a = (1, []) := by simp [formO, h]
theorem formO_ok {a : List (List Int)} (h : isLB a = true) : formO a = (0, formL a) := by simp [formO, h]
theorem formO_bounds (a : List (List Int)) : (formO a).2.length ≤ 75582 ∧ totalL (formO a).2 ≤ 529074 := by
  cases h : isLB a
  · rw [formO_bad h]; simp [totalL]
  · rw [formO_ok h]; exact formL_bounds (isLB_okW h)

end Go.Proofs.YtdgcgcodjddddaaDoor
