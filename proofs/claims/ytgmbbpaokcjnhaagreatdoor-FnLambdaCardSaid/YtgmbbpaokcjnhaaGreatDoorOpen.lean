/- The arguments of a law, opened: structs of one or two fields, lists of lists of integers. -/
import Derived.Test.YtgmbbpaokcjnhaaGreatDoorLL
import Derived.Deep.Matrix
import Derived.Lib.SmallJoins
import Derived.OpenShut
namespace Go.Proofs.YtgmbbpaokcjnhaaGreatDoor
open Go.RowKit Go.WideShapes Go.ChangeShapes
set_option linter.unusedVariables false

theorem open_agg1 {H : Type} {enc : TypeId × Value → H} {P : Program} {w : World} {base : Nat} {spare : Nat → Bool} {held : Bool} {r : Reach} {b0 : Nat} {t : TypeId} {f0 : Field} {v : Value} {d : DataW H} {p : List MemPlace}
    (hs : P.underlying t = some (.struct #[f0])) (hone : Deep.oneCellFields P #[f0] = true) (hC : P.cellsOf t = 1) (hv : Value.okWide P w r b0 t v) (h : DataW.Trod enc P w base spare held t v d p) :
    ∃ (v0 : Value) (y0 : DataW H × List MemPlace) (n : Nat), v = .agg #[v0] ∧ DataW.trod enc P w base spare held n f0.type [v0] = some y0 := by
  obtain ⟨cs, rfl, hsz⟩ := okWide_struct hs hv
  obtain ⟨c0, rfl⟩ : ∃ c0, cs = #[c0] := by
    obtain ⟨l⟩ := cs
    match l, hsz.trans hC with
    | [c0], _ => exact ⟨c0, rfl⟩
  obtain ⟨fuel, hf⟩ := h
  obtain ⟨xs, n, _, _, hl, hlen, hf⟩ := DataW.trod_struct hs hf
  match xs, hlen with
  | [y0], _ =>
    obtain ⟨o0, k0⟩ := Deep.hone_of hone 0 f0 rfl
    exact ⟨c0, y0, n, rfl, by simpa [Value.cells, o0, k0] using hf 0 f0 rfl⟩

theorem open_lists {H : Type} {enc : TypeId × Value → H} {P : Program} {w : World} {base : Nat} {held : Bool} {t e q : TypeId} {fuel : Nat} {v : Value} {x : DataW H × List MemPlace} (ht : P.underlying t = some (.slice e)) (he : P.underlying e = some (.slice q)) (hq : P.underlying q = some (.int .i64))
    (ce : P.cellsOf e = 1) (cq : P.cellsOf q = 1) (h : DataW.trod enc P w base (fun _ => true) held fuel t [v] = some x) :
    ∃ A n c xss, v = .slice A n c ∧ RdL w w.heap.size A n c xss ∧ n ≤ 9223372036854775807 ∧ (∀ x ∈ xss, x.length ≤ 9223372036854775807) ∧ ∀ x ∈ xss, ∀ i ∈ x, (Lit.int .i64 i).wf = true := by
  rcases Deep.open_int_rows ht he hq ce cq h with ⟨hv, _⟩ | ⟨a, len, cap, A, L, C, Z, hv, _, hl, hm, _, hr⟩
  · simp only [List.cons.injEq, and_true] at hv
    exact ⟨none, 0, 0, [], hv, RdL.nil, by omega, by simp, by simp⟩
  · simp only [List.cons.injEq, and_true] at hv
    unfold maxLen at hm
    refine ⟨some a, len, cap, (List.range len).map fun r => (Z r).take (L r), hv, ⟨by simp, (List.range len).map fun r => .slice (A r) (L r) (C r), ⟨by simp, hl, fun j hj => ?_⟩, fun j v xs hv hx => ?_⟩, by omega, fun x hx => ?_, fun x hx i hi => ?_⟩
    · have hj' : j < len := by simpa using hj
      have hc := (hr j (by omega)).1
      have hb := World.block_lt_of_cell? w _ hc
      rw [block_of_add] at hb
      exact ⟨a, rfl, hb, by simpa using hc⟩
    · have hj : j < len := by
        have := (List.getElem?_eq_some_iff.1 hv).1
        simpa using this
      simp only [List.getElem?_map, List.getElem?_range hj, Option.map_some, Option.some.injEq] at hv hx
      subst hv; subst hx
      obtain ⟨_, h1, h2, h3, _, h5, h6⟩ := hr j (by omega)
      refine ⟨A j, L j, C j, rfl, ⟨by rw [List.length_take]; omega, h1, fun i hi => ?_⟩⟩
      rw [List.length_take] at hi
      cases hA : A j with
      | none => have := h5 hA; omega
      | some a' =>
        have hc := (h6 a' hA).2 i (by omega)
        have hb := World.block_lt_of_cell? w _ hc
        rw [block_of_add] at hb
        refine ⟨a', rfl, hb, ?_⟩
        rw [hc, List.getElem_take]
        simp [List.getD, show i < (Z j).length by omega]
    · obtain ⟨j, hj, rfl⟩ := List.mem_map.1 hx
      obtain ⟨_, h1, h2, h3, _⟩ := hr j (by have := List.mem_range.1 hj; omega)
      unfold maxLen at h2
      rw [List.length_take]; omega
    · obtain ⟨j, hj, rfl⟩ := List.mem_map.1 hx
      obtain ⟨_, _, _, _, h4, _⟩ := hr j (by have := List.mem_range.1 hj; omega)
      exact h4 i (List.mem_of_mem_take hi)
end Go.Proofs.YtgmbbpaokcjnhaaGreatDoor
