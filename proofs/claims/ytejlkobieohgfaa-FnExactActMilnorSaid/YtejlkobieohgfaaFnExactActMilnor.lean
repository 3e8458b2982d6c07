/-
  Proved: for every input the program's ActMilnor returns what the reference's returns, leaves its arguments as they were, and shares no memory (Rows.FnExactActMilnorSaid).
  Conditions: none.
-/
import Derived.Test.YtejlkobieohgfaaRows
import Derived.Test.YtejlkobieohgfaaLwActMilnor
import Derived.Test.YtejlkobieohgfaaOpen
import Derived.WalkKit
import Derived.ProofKit
import Derived.OpenShut
import Derived.ShutString
namespace Go.Proofs.Ytejlkobieohgfaa.fnExactActMilnor
open Go.ChangeShapes Go.WideShapes Go.ChangeAt Go.RowKit Go.Lib
open Go.ChangeMaps (open_string shut_string)
set_option linter.unusedVariables false

theorem own : ownKnob Try.prog.godebug = none := by kernel_rfl
theorem laidOut : laidOutB Try.prog = true := by kernel_rfl

theorem toldV_total (v : Int) (s : List (List Int)) (c : Nat) (h : ∀ x ∈ s, x.length ≤ c) : (toldV v s).2.1.length ≤ 2000 ∧ totalL (toldV v s).2.1 ≤ 2000 * c := by
  unfold toldV
  split
  · simp [totalL]
  · rename_i h2
    have h3 := totalL_le s c h
    refine ⟨by show s.length ≤ 2000; omega, Nat.le_trans h3 ?_⟩
    exact Nat.mul_le_mul (by omega) (Nat.le_refl _)
theorem milO_bounds (v : Int) (a f : List (List Int)) : (milO v a f).2.1.length ≤ 2000 ∧ totalL (milO v a f).2.1 ≤ 8000 := by
  unfold milO
  split
  · rename_i hp
    split
    · simp [totalL]
    · have hf := polF_of hp.2
      obtain ⟨k, hk⟩ : ∃ k : Nat, v = k := ⟨v.toNat, by have := hf.lo; omega⟩
      exact toldV_total v _ 4 fun x hx => by
        obtain ⟨r, hr, hz⟩ := List.mem_flatMap.1 (oddL_mem hx)
        obtain ⟨z, hz1, hz⟩ := List.mem_flatMap.1 hz
        have := (milW_deg z r k _ (hf.degs hk z hz1) ((miF_of hp.1).each r hr).row.nn x hz).2.2
        have := hf.hi
        omega
  · simp [totalL]

/-! The walk of the law: it returns true and writes nothing that was there. -/
theorem walk (A0 : Option Addr) (n0 c0 : Nat) (xss0 : List (List Int)) (a1 : Int) (A1 : Option Addr) (n1 c1 : Nat) (xss1 : List (List Int)) (w : World) (h0 : RdL w w.heap.size A0 n0 c0 xss0) (m0 : n0 ≤ 9223372036854775807) (e0 : ∀ x ∈ xss0, x.length ≤ 9223372036854775807) (f0 : ∀ x ∈ xss0, ∀ i ∈ x, (Lit.int .i64 i).wf = true) (i1 : (Lit.int .i64 a1).wf = true) (h1 : RdL w w.heap.size A1 n1 c1 xss1) (m1 : n1 ≤ 9223372036854775807) (e1 : ∀ x ∈ xss1, x.length ≤ 9223372036854775807) (f1 : ∀ x ∈ xss1, ∀ i ∈ x, (Lit.int .i64 i).wf = true) :
    Calls Try.prog 11 #[.agg #[.slice A0 n0 c0], .agg #[.int .i64 a1, .slice A1 n1 c1]] w fun e w' => e = .returned (.bool true) ∧ Below w.heap.size w w' := by
  by_cases hs0 : n0 + totalL xss0 ≤ 1048576
  · by_cases hs : n0 + totalL xss0 + (n1 + totalL xss1) ≤ 1048576
    · have hl0 := h0.len
      have hl1 := h1.len
      exact coreActMilnor A0 n0 c0 xss0 a1 A1 n1 c1 xss1 _ _ _ _ (by have := milO_bounds a1 xss0 xss1; omega) (by have := milO_bounds a1 xss0 xss1; omega) w h0 e0 h1 e1 hs
        (fun A0 c0 A1 c1 w r0 r1 => sActMilnor A0 n0 c0 xss0 a1 A1 n1 c1 xss1 w r0 r1 (by omega) (by omega) (by omega) (by omega))
        (fun A0 c0 A1 c1 w r0 r1 => iActMilnor A0 n0 c0 xss0 a1 A1 n1 c1 xss1 w r0 r1 (by omega) (by omega) (by omega) (by omega))
    · exact bigActMilnor1 A0 n0 c0 xss0 a1 A1 n1 c1 xss1 w h0 m0 e0 h1 m1 e1 hs0 hs
  · exact bigActMilnor0 A0 n0 c0 xss0 a1 A1 n1 c1 xss1 w h0 m0 e0 hs0

set_option maxRecDepth 100000 in
theorem lifted (os : Os) (started : os.Started) (H : Type) (enc : TypeId × Value → H) :
    ReturnsInHanded {} Try.checked os 11 .any (Rows.fnExactActMilnorSpec.pre6 enc Try.prog Try.f11 Rows.fnExactActMilnorRow.domain false) (Rows.fnExactActMilnorSpec.post enc Try.prog Try.f11 false true false false) := by
  refine returnsInHanded_of_change (C := Try.checked) own started (by kernel_rfl) Try.func11
    (ChangeSpec.witness6 (enc := enc) (C := Try.checked) false ⟨#[], #[.agg #[.slice none 0 0], .agg #[.int .i64 0, .slice none 0 0]], []⟩ 8 (by kernel_rfl) (by kernel_rfl) (by kernel_rfl) (by kernel_rfl)) ?_
  intro W base args ds gs before hval0 hW hcnd _
  have hval : ∀ (j : Nat) t v, Try.f11.params[j]? = some t → args[j]? = some v → Value.okWide Try.prog W .any base t v := hval0
  have hW' := hW
  obtain ⟨p, q, hA0, hV, rfl, hfz, hnd⟩ := hW
  have hA : DataW.TrodAll enc Try.prog W 0 (fun _ => true) true Try.f11.params.toList args.toList ds p := hA0
  rw [Try.params11] at hA hval
  obtain ⟨v0, vs0, d0, ds0, p0, q0, hargs, rfl, rfl, g0, r0⟩ := trodAll_cons hA
  obtain ⟨v1, vs1, d1, ds1, p1, q1, rfl, rfl, rfl, g1, r1⟩ := trodAll_cons r0
  obtain ⟨rfl, rfl, rfl⟩ := trodAll_nil r1
  obtain rfl : args = #[v0, v1] := by cases args; simp_all
  obtain ⟨rfl, rfl⟩ := trodVars_none hV
  have k0 := g0
  have lt0 : ∀ x ∈ p0, x.block < W.heap.size := by obtain ⟨m, hm⟩ := k0; exact DataW.trod_lt m _ _ _ hm
  have k1 := g1
  have lt1 : ∀ x ∈ p1, x.block < W.heap.size := by obtain ⟨m, hm⟩ := k1; exact DataW.trod_lt m _ _ _ hm
  obtain ⟨u0, y0, N0, hv0, t0⟩ := open_agg1 Try.underlying65 (by kernel_rfl) (by kernel_rfl) (hval 0 65 v0 rfl rfl) g0
  obtain ⟨A0, n0, c0, xss0, hu0, h0, m0, e0, f0⟩ := open_lists Try.underlying22 Try.underlying29 Try.underlying2 (by kernel_rfl) (by kernel_rfl) t0
  subst hu0
  subst hv0
  obtain ⟨s1, u1, z1, y1, N1, hv1, _, _, tz1, t1⟩ := Go.Joins.open_agg2 Try.underlying39 (by kernel_rfl) (by kernel_rfl) (hval 1 39 v1 rfl rfl) g1
  obtain ⟨a1, hs1, _, i1⟩ := DataW.trod_int Try.underlying2 tz1
  obtain ⟨A1, n1, c1, xss1, hu1, h1, m1, e1, f1⟩ := open_lists Try.underlying22 Try.underlying29 Try.underlying2 (by kernel_rfl) (by kernel_rfl) t1
  simp only [List.cons.injEq, and_true] at hs1
  subst hs1
  subst hu1
  subst hv1
  clear hA0 hval0
  refine (walk A0 n0 c0 xss0 a1 A1 n1 c1 xss1 W h0 m0 e0 f0 i1 h1 m1 e1 f1).mono fun e W' ⟨he, bel⟩ => ?_
  subst he
  exact ⟨_, rfl, _, _, _, [], _, [], hW', trodAll_mk1 (shut_bool Try.underlying4 _), (trodAll_cons_mk (Below.trod laidOut (by kernel_rfl) (of_decide_eq_true (by kernel_rfl)) k0 bel lt0) (trodAll_cons_mk (Below.trod laidOut (by kernel_rfl) (of_decide_eq_true (by kernel_rfl)) k1 bel lt1) trodAll_mk0)), rfl, bel.frame _, fun h => by cases h⟩

theorem over : Rows.fnExactActMilnorRow.holds Try.pinned (OpenSpec.ofChange Rows.fnExactActMilnorSpec) :=
  OpenClaim.holds_of_wide 11 Try.f11 rfl rfl rfl rfl rfl rfl rfl ⟨rfl, rfl, rfl, rfl, rfl⟩ rfl rfl rfl rfl rfl (by kernel_rfl) Try.func11 (by kernel_rfl)
    (of_decide_eq_true (by kernel_rfl)) (by unfold Func.isWrapper; first | (rw [if_pos (by decide +kernel)]; kernel_rfl) | (rw [if_neg (by decide +kernel)]; exact ⟨rfl, rfl⟩))
    (fun os started H enc _ => lifted os started H enc)

theorem proved : Rows.FnExactActMilnorSaid := over
#print axioms proved
end Go.Proofs.Ytejlkobieohgfaa.fnExactActMilnor
