/-
  Proved: for every input the program's MultiplyLambda returns what the reference's returns, leaves its arguments as they were, and shares no memory (Rows.FnExactMultiplyLambdaSaid).
  Conditions: none.
-/
import Derived.Test.YthaokhjkibbplaaRows
import Derived.Test.YthaokhjkibbplaaLwMultiplyLambda
import Derived.Test.YthaokhjkibbplaaMul
import Derived.Test.YthaokhjkibbplaaOpen
import Derived.WalkKit
import Derived.ProofKit
import Derived.OpenShut
import Derived.ShutString
namespace Go.Proofs.Ythaokhjkibbplaa.fnExactMultiplyLambda
open Go.ChangeShapes Go.WideShapes Go.ChangeAt Go.RowKit Go.Lib
open Go.ChangeMaps (open_string shut_string)
set_option linter.unusedVariables false

theorem own : ownKnob Try.prog.godebug = none := by kernel_rfl
theorem laidOut : laidOutB Try.prog = true := by kernel_rfl


/-! The walk of the law: it returns true and writes nothing that was there. -/
theorem walk (A0 : Option Addr) (n0 c0 : Nat) (xss0 : List (List Int)) (A1 : Option Addr) (n1 c1 : Nat) (xss1 : List (List Int)) (w : World) (h0 : RdL w w.heap.size A0 n0 c0 xss0) (m0 : n0 ≤ 9223372036854775807) (e0 : ∀ x ∈ xss0, x.length ≤ 9223372036854775807) (f0 : ∀ x ∈ xss0, ∀ i ∈ x, (Lit.int .i64 i).wf = true) (h1 : RdL w w.heap.size A1 n1 c1 xss1) (m1 : n1 ≤ 9223372036854775807) (e1 : ∀ x ∈ xss1, x.length ≤ 9223372036854775807) (f1 : ∀ x ∈ xss1, ∀ i ∈ x, (Lit.int .i64 i).wf = true) :
    Calls Try.prog 6 #[.agg #[.slice A0 n0 c0], .agg #[.slice A1 n1 c1]] w fun e w' => e = .returned (.bool true) ∧ Below w.heap.size w w' := by
  by_cases hs0 : n0 + totalL xss0 ≤ 1048576
  · by_cases hs : n0 + totalL xss0 + (n1 + totalL xss1) ≤ 1048576
    · exact coreMultiplyLambda A0 n0 c0 xss0 A1 n1 c1 xss1 _ _ _ (by have := mulO_bounds xss0 xss1; omega) (by have := mulO_bounds xss0 xss1; omega) w h0 e0 h1 e1 hs
        (fun A0 c0 A1 c1 w r0 r1 => sMultiplyLambda A0 A1 n0 c0 n1 c1 xss0 xss1 w r0 r1 (by omega) (by omega) (by omega) (by omega))
        (fun A0 c0 A1 c1 w r0 r1 => iMultiplyLambda A0 A1 n0 c0 n1 c1 xss0 xss1 w r0 r1 (by omega) (by omega) (by omega) (by omega))
    · exact bigMultiplyLambda1 A0 n0 c0 xss0 A1 n1 c1 xss1 w h0 m0 e0 h1 m1 e1 hs0 hs
  · exact bigMultiplyLambda0 A0 n0 c0 xss0 A1 n1 c1 xss1 w h0 m0 e0 hs0

set_option maxRecDepth 100000 in
theorem lifted (os : Os) (started : os.Started) (H : Type) (enc : TypeId × Value → H) :
    ReturnsInHanded {} Try.checked os 6 .any (Rows.fnExactMultiplyLambdaSpec.pre6 enc Try.prog Try.f6 Rows.fnExactMultiplyLambdaRow.domain false) (Rows.fnExactMultiplyLambdaSpec.post enc Try.prog Try.f6 false true false false) := by
  refine returnsInHanded_of_change (C := Try.checked) own started (by kernel_rfl) Try.func6
    (ChangeSpec.witness6 (enc := enc) (C := Try.checked) false ⟨#[], #[.agg #[.slice none 0 0], .agg #[.slice none 0 0]], []⟩ 8 (by kernel_rfl) (by kernel_rfl) (by kernel_rfl) (by kernel_rfl)) ?_
  intro W base args ds gs before hval0 hW hcnd _
  have hval : ∀ (j : Nat) t v, Try.f6.params[j]? = some t → args[j]? = some v → Value.okWide Try.prog W .any base t v := hval0
  have hW' := hW
  obtain ⟨p, q, hA0, hV, rfl, hfz, hnd⟩ := hW
  have hA : DataW.TrodAll enc Try.prog W 0 (fun _ => true) true Try.f6.params.toList args.toList ds p := hA0
  rw [Try.params6] at hA hval
  obtain ⟨v0, vs0, d0, ds0, p0, q0, hargs, rfl, rfl, g0, r0⟩ := trodAll_cons hA
  obtain ⟨v1, vs1, d1, ds1, p1, q1, rfl, rfl, rfl, g1, r1⟩ := trodAll_cons r0
  obtain ⟨rfl, rfl, rfl⟩ := trodAll_nil r1
  obtain rfl : args = #[v0, v1] := by cases args; simp_all
  obtain ⟨rfl, rfl⟩ := trodVars_none hV
  have k0 := g0
  have lt0 : ∀ x ∈ p0, x.block < W.heap.size := by obtain ⟨m, hm⟩ := k0; exact DataW.trod_lt m _ _ _ hm
  have k1 := g1
  have lt1 : ∀ x ∈ p1, x.block < W.heap.size := by obtain ⟨m, hm⟩ := k1; exact DataW.trod_lt m _ _ _ hm
  obtain ⟨u0, y0, N0, hv0, t0⟩ := open_agg1 Try.underlying24 (by kernel_rfl) (by kernel_rfl) (hval 0 24 v0 rfl rfl) g0
  obtain ⟨A0, n0, c0, xss0, hu0, h0, m0, e0, f0⟩ := open_lists Try.underlying22 Try.underlying40 Try.underlying2 (by kernel_rfl) (by kernel_rfl) t0
  subst hu0
  subst hv0
  obtain ⟨u1, y1, N1, hv1, t1⟩ := open_agg1 Try.underlying24 (by kernel_rfl) (by kernel_rfl) (hval 1 24 v1 rfl rfl) g1
  obtain ⟨A1, n1, c1, xss1, hu1, h1, m1, e1, f1⟩ := open_lists Try.underlying22 Try.underlying40 Try.underlying2 (by kernel_rfl) (by kernel_rfl) t1
  subst hu1
  subst hv1
  clear hA0 hval0
  refine (walk A0 n0 c0 xss0 A1 n1 c1 xss1 W h0 m0 e0 f0 h1 m1 e1 f1).mono fun e W' ⟨he, bel⟩ => ?_
  subst he
  exact ⟨_, rfl, _, _, _, [], _, [], hW', trodAll_mk1 (shut_bool Try.underlying4 _), (trodAll_cons_mk (Below.trod laidOut (by kernel_rfl) (of_decide_eq_true (by kernel_rfl)) k0 bel lt0) (trodAll_cons_mk (Below.trod laidOut (by kernel_rfl) (of_decide_eq_true (by kernel_rfl)) k1 bel lt1) trodAll_mk0)), rfl, bel.frame _, fun h => by cases h⟩

theorem over : Rows.fnExactMultiplyLambdaRow.holds Try.pinned (OpenSpec.ofChange Rows.fnExactMultiplyLambdaSpec) :=
  OpenClaim.holds_of_wide 6 Try.f6 rfl rfl rfl rfl rfl rfl rfl ⟨rfl, rfl, rfl, rfl, rfl⟩ rfl rfl rfl rfl rfl (by kernel_rfl) Try.func6 (by kernel_rfl)
    (of_decide_eq_true (by kernel_rfl)) (by unfold Func.isWrapper; first | (rw [if_pos (by decide +kernel)]; kernel_rfl) | (rw [if_neg (by decide +kernel)]; exact ⟨rfl, rfl⟩))
    (fun os started H enc _ => lifted os started H enc)

theorem proved : Rows.FnExactMultiplyLambdaSaid := over
#print axioms proved
end Go.Proofs.Ythaokhjkibbplaa.fnExactMultiplyLambda
